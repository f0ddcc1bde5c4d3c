/- The document's memory: places, what is asked. -/
import Derived.Test.YtganjkhdlehhdaaGreatAV1toAVD
import Derived.Test.YtganjkhdlehhdaaGreatFwRowtoME6
import Derived.Test.YtganjkhdlehhdaaGreatFwJmptoAMG
import Derived.Test.YtganjkhdlehhdaaGreatRM6toRM7
set_option linter.unusedVariables false
set_option linter.unusedSimpArgs false
set_option maxHeartbeats 4000000
set_option maxRecDepth 100000
namespace Go.Proofs
open Go.Mu
theorem rplace_ok {M : List Blk} {k kb : Nat} {lay : List Rg} {b : List Int} (m : RefAt M k kb (Rg.sl lay) b) (hl : lay.length ≤ 16) (ho : ∀ r ∈ lay, r.Ok) (a : Int) (h0 : 0 ≤ a) (h1 : a < 2^64) : ACalls Tryz.prog 107 [.bp k 0, U a] M (fun e M' => (∃ q, e = .ret (.tup [I (placeN lay a), I q])) ∧ M' = M) := by
  refine acalls_tidy (acalls_of_vc (hn := fun _ => false) (od := fun _ => none) Tryz.func107 rfl (by kernel_rfl) ?_)
  obtain ⟨m1, m2, m3⟩ := m
  obtain ⟨E, hE⟩ : ∃ E, E = placeN lay a := ⟨_, rfl⟩
  rw [← hE]
  unfold placeN at hE
  by_cases h2 : 65536 ≤ a
  · have d : decide (65536 ≤ a) = true := decide_eq_true h2
    rw [if_pos h2] at hE
    subst hE
    simp -dsimp [d]
    exact tidy_now rfl ⟨⟨_, rfl⟩, rfl⟩
  · have d : decide (65536 ≤ a) = false := decide_eq_false h2
    rw [if_neg h2] at hE
    have w1 : IntKind.i64.wrap a = a := wrapI (by omega) (by omega)
    by_cases h3 : 49152 ≤ a
    · have d3 : decide (49152 ≤ a) = true := decide_eq_true h3
      rw [if_pos h3] at hE
      subst hE
      simp -dsimp [d, d3, w1]
      exact tidy_now rfl ⟨⟨_, rfl⟩, rfl⟩
    · have d3 : decide (49152 ≤ a) = false := decide_eq_false h3
      rw [if_neg h3] at hE
      simp -dsimp [d, d3, w1]
      obtain ⟨X, hX⟩ : ∃ X, X = idxP (hasA a) lay 0 := ⟨_, rfl⟩
      rw [← hX] at hE
      refine loop_rule (hn := fun _ => false) (od := fun _ => none) (fun (i : Nat) f M' => M' = M ∧ f 0 = .bp k 0 ∧ f 6 = I a ∧ f 7 = I i ∧ i ≤ lay.length ∧ idxP (hasA a) (lay.drop i) i = X) (fun i => lay.length - i) (by kernel_rfl) 0 (by refine ⟨rfl, by simp, by simp, by simp, by omega, by rw [hX]; rfl⟩) ?_
      rintro i f M' ⟨rfl, f0, f6, f7, hi, hinv⟩
      simp -dsimp [f0, f6, f7, m1]
      refine condVW_introD (fun hlt => ?_) (fun hlt => ?_)
      · have hlt' : i < lay.length := by omega
        have hx := List.getElem?_eq_getElem hlt'
        have hdr : lay.drop i = lay[i] :: lay.drop (i + 1) := drop_cons hlt'
        have okr := ho lay[i] (List.getElem_mem hlt')
        obtain ⟨x, hxe⟩ : ∃ x, x = lay[i] := ⟨_, rfl⟩
        rw [← hxe] at hx hdr okr
        clear hxe
        rw [hdr, idxP] at hinv
        have hfin : x.fin = x.addr + 8 * x.size := Rg.fin_ok okr
        have w8 : IntKind.i64.wrap (8 * x.size) = 8 * x.size := wrapI (by have := okr.s1; omega) (by have := okr.s2; omega)
        have wf : IntKind.i64.wrap (x.addr + 8 * x.size) = x.fin := by rw [hfin]; exact wrapI (by have := okr.s1; have := okr.a1; omega) (by have := okr.s2; have := okr.a3; omega)
        obtain ⟨c1, hc1⟩ : ∃ c, c = decide (x.addr ≤ a) := ⟨_, rfl⟩
        obtain ⟨c2, hc2⟩ : ∃ c, c = decide (a < x.fin) := ⟨_, rfl⟩
        have hh : hasA a x = (c1 && c2) := by rw [hc1, hc2]; rfl
        rw [hh] at hinv
        replace hc1 := hc1.symm
        replace hc2 := hc2.symm
        simp -dsimp [f0, f6, f7, m1, hx, hc1, w8, wf, hc2]
        cases c1
        · simp -dsimp [f0, f6, f7]
          exact ⟨i + 1, by omega, wrapS (by omega), by omega, hinv⟩
        · simp -dsimp [f0, f6, f7, m1, hx, hc1, w8, wf, hc2]
          cases c2
          · simp -dsimp [f0, f6, f7]
            exact ⟨i + 1, by omega, wrapS (by omega), by omega, hinv⟩
          · simp -dsimp [f0, f6, f7, m1, hx]
            have hx1 : X = i := by rw [← hinv]; rfl
            rw [hx1, if_neg (by omega)] at hE
            subst hE
            exact tidy_now rfl ⟨⟨_, rfl⟩, rfl⟩
      · have : i = lay.length := by omega
        rw [this, List.drop_length] at hinv
        have hx1 : X = -1 := by rw [← hinv]; rfl
        rw [hx1, if_pos (by decide)] at hE
        simp -dsimp
        subst hE
        exact tidy_now rfl ⟨⟨_, rfl⟩, rfl⟩
theorem rask_ok {M : List Blk} {k kb : Nat} {lay : List Rg} {b : List Int} (m : RefAt M k kb (Rg.sl lay) b) (hl : lay.length ≤ 16) (ho : ∀ r ∈ lay, r.Ok) (a : Int) (h0 : 0 ≤ a) (h1 : a < 2^64) : ACalls Tryz.prog 86 [.bp k 0, U a] M (fun e M' => e = .ret (I (askE lay a)) ∧ M' = M) := by
  refine acalls_tidy (acalls_of_vc (hn := fun _ => false) (od := fun _ => none) Tryz.func86 rfl (by kernel_rfl) ?_)
  have cp := rplace_ok m hl ho a h0 h1
  unfold askE
  generalize placeN lay a = p at cp
  by_cases h8 : a.tmod 8 = 0
  · have d8 : (a.tmod 8 != 0) = false := by simp [h8]
    rw [if_pos h8]
    simp -dsimp [d8]
    refine acallsW_of cp ?_
    rintro e _ ⟨⟨q, rfl⟩, rfl⟩
    simp -dsimp
    by_cases h2 : p = -2
    · have d2 : (p == -2) = true := by simp [h2]
      rw [if_pos h2]
      simp -dsimp [d2]
      exact tidy_now rfl ⟨rfl, rfl⟩
    · have d2 : (p == -2) = false := by simp [h2]
      rw [if_neg h2]
      simp -dsimp [d2]
      exact tidy_now rfl ⟨rfl, rfl⟩
  · have d8 : (a.tmod 8 != 0) = true := by simp [h8]
    rw [if_neg h8]
    simp -dsimp [d8]
    exact tidy_now rfl ⟨rfl, rfl⟩
theorem rload_ok {M : List Blk} {k kb : Nat} {lay : List Rg} {b : List Int} (m : RefAt M k kb (Rg.sl lay) b) (hb : BytesOk b) (hl : lay.length ≤ 16) (ho : ∀ r ∈ lay, r.Ok) (a : Int) (h0 : 0 ≤ a) (h1 : a < 2^64) :
    ACalls Tryz.prog 46 [.bp k 0, U a] M (fun e M' => e = .ret (.tup [U (if askE lay a = 0 then getW b a.toNat else 0), I (askE lay a)]) ∧ M' = M) := by
  refine acalls_tidy (acalls_of_vc (hn := fun _ => false) (od := fun _ => none) Tryz.func46 rfl (by kernel_rfl) ?_)
  have ca := rask_ok m hl ho a h0 h1
  have hlow := ask_low ho h0
  generalize askE lay a = n at *
  simp -dsimp
  refine acallsW_det ca ?_
  by_cases hn : n = 0
  · have ha := hlow hn
    have cg := rget_ok m hb a.toNat (by omega)
    rw [rget_get hb] at cg
    have w1 : IntKind.i64.wrap a = a := wrapI (by omega) (by omega)
    have et : (a.toNat : Int) = a := Int.toNat_of_nonneg h0
    rw [et] at cg
    have d : (n != 0) = false := by simp [hn]
    rw [if_pos hn]
    simp -dsimp [d, w1]
    refine acallsW_det cg ?_
    simp -dsimp
    rw [hn]
    exact tidy_now rfl ⟨rfl, rfl⟩
  · have d : (n != 0) = true := by simp [hn]
    rw [if_neg hn]
    simp -dsimp [d]
    exact tidy_now rfl ⟨rfl, rfl⟩
theorem rstore_ok {M : List Blk} {k kb : Nat} {lay : List Rg} {b : List Int} (m : RefAt M k kb (Rg.sl lay) b) (hl : lay.length ≤ 16) (ho : ∀ r ∈ lay, r.Ok) (a : Int) (h0 : 0 ≤ a) (h1 : a < 2^64) (x : Int) :
    ACalls Tryz.prog 47 [.bp k 0, U a, U x] M (fun e M' => e = .ret (I (askE lay a)) ∧ M' = M.set kb (rowY (if askE lay a = 0 then putW b a.toNat x else b))) := by
  refine acalls_of_vc (hn := fun _ => false) (od := fun _ => none) Tryz.func47 rfl (by kernel_rfl) ?_
  have ca := rask_ok m hl ho a h0 h1
  have hlow := ask_low ho h0
  have hself := setSelf m.bytes
  generalize askE lay a = n at *
  simp -dsimp
  refine acallsW_det ca ?_
  by_cases hn : n = 0
  · have ha := hlow hn
    have cp := rput_ok m a.toNat (by omega) x
    have w1 : IntKind.i64.wrap a = a := wrapI (by omega) (by omega)
    have et : (a.toNat : Int) = a := Int.toNat_of_nonneg h0
    rw [et] at cp
    have d : (n != 0) = false := by simp [hn]
    rw [if_pos hn]
    simp -dsimp [d, w1]
    refine acallsW_of cp ?_
    rintro e _ ⟨rfl, rfl⟩
    simp -dsimp
    rw [hn]
  · have d : (n != 0) = true := by simp [hn]
    rw [if_neg hn]
    simp -dsimp [d]
    exact hself.symm
end Go.Proofs
namespace Go.Proofs
open Go.Mu
theorem bytes_set {b : List Int} (h : BytesOk b) (i : Nat) (x : Int) : BytesOk (b.set i (IntKind.u8.wrap x)) := by
  intro y hy
  rcases List.mem_or_eq_of_mem_set hy with hy | rfl
  · exact h y hy
  · show 0 ≤ x % 256 ∧ x % 256 ≤ 255
    omega
theorem bytes_putTo {b : List Int} (h : BytesOk b) (at_ : Nat) (x : Int) : ∀ n, BytesOk (putTo b at_ x n)
  | 0 => h
  | n + 1 => bytes_set (bytes_putTo h at_ x n) _ _
theorem bytes_put {b : List Int} (h : BytesOk b) (at_ : Nat) (x : Int) : BytesOk (putW b at_ x) := bytes_putTo h at_ x 8
theorem bytes_zero : BytesOk zeroR := fun x hx => by
  have := List.eq_of_mem_replicate hx
  rw [this]; decide
theorem low8_eq {x : Int} (h : Wd x) : low8 x = x % 256 := by
  obtain ⟨h0, h1⟩ := h
  obtain ⟨n, rfl⟩ := Int.eq_ofNat_of_zero_le h0
  unfold low8 andU
  have b64 : (2 : Int) ^ IntKind.u64.bits = 18446744073709551616 := by decide
  rw [b64, Int.emod_eq_of_lt (by omega) (by omega), Int.toNat_natCast]
  have e : ((255 : Int) % 18446744073709551616).toNat = 2 ^ 8 - 1 := by decide
  rw [e, Nat.and_two_pow_sub_one_eq_mod, IntKind.wrap_u64]
  omega
theorem or_one {x : Int} (h : Wd x) : orU (andN8 x) 1 = andN8 x + 1 := by
  obtain ⟨h0, h1⟩ := h
  have e : andN8 x = 2 ^ 8 * (x / 256) := by unfold andN8; rw [Int.mul_comm]; rfl
  rw [e]
  exact or_sum (by omega) (by decide) (by decide) (by omega)
theorem bytes_fillRow {b : List Int} (h : BytesOk b) (a : Nat) (x : List Int) : ∀ n, BytesOk (fillRow b a x n)
  | 0 => h
  | n + 1 => by rw [fillRow]; exact bytes_put (bytes_fillRow h a x n) _ _
theorem bytes_fillTo {z : List Int} (h : BytesOk z) (l : List Rg) (w : List (List Int)) : ∀ i, BytesOk (fillTo z l w i)
  | 0 => h
  | i + 1 => by
    rw [fillTo]
    split
    · exact bytes_fillRow (bytes_fillTo h l w i) _ _ _
    · exact bytes_fillTo h l w i
end Go.Proofs
namespace Go.Proofs
open Go.Mu
structure RefV (M : List Blk) (k : Nat) (lay : List Rg) (b : List Int) : Prop where
  me : M[k]? = some (.box 98 [Rg.sl lay, .vs 1 (b.map fun x => [Y x])])
  len : b.length = 65536
  ok : BytesOk b
theorem rgetV_ok {M : List Blk} {k : Nat} {lay : List Rg} {b : List Int} (m : RefV M k lay b) (at_ : Nat) (ha : at_ ≤ 65528) : ACalls Tryz.prog 84 [.bp k 0, I at_] M (fun e M' => e = .ret (U (getW b at_)) ∧ M' = M) := by
  rw [← rget_get m.ok at_]
  refine acalls_of_vc (hn := fun _ => false) (od := fun _ => none) Tryz.func84 rfl (by kernel_rfl) ?_
  obtain ⟨m1, m3, hb⟩ := m
  simp -dsimp
  refine loop_rule (hn := fun _ => false) (od := fun _ => none) (fun (j : Nat) f M' => M' = M ∧ f 0 = .bp k 0 ∧ f 1 = I at_ ∧ f 5 = U (rgTo b at_ j) ∧ f 6 = I (7 - (j : Int)) ∧ j ≤ 8) (fun j => 8 - j) (by kernel_rfl) 0 (by refine ⟨rfl, by simp, by simp, by simp [rgTo], by simp, by omega⟩) ?_
  rintro j f M' ⟨rfl, f0, f1, f5, f6, hj⟩
  simp -dsimp [f0, f1, f5, f6]
  by_cases h8 : j < 8
  · have d8 : decide ((j : Int) ≤ 7) = true := decide_eq_true (by omega)
    obtain ⟨q, hq⟩ : ∃ q, q = at_ + (7 - j) := ⟨_, rfl⟩
    have w1 : IntKind.i64.wrap ((at_ : Int) + (7 - (j : Int))) = (q : Int) := by rw [wrapI (by omega) (by omega)]; omega
    have w2 : IntKind.i64.wrap (7 - (j : Int) - 1) = 7 - ((j + 1 : Nat) : Int) := by rw [wrapI (by omega) (by omega)]; omega
    have hql : q < b.length := by rw [m3]; omega
    have hg : (b.map fun x => [Y x])[q]? = some [Y (bAt b q)] := by
      rw [List.getElem?_map, List.getElem?_eq_getElem hql]
      unfold bAt
      rw [List.getD_eq_getElem?_getD, List.getElem?_eq_getElem hql]
      rfl
    have r1 := rgTo_rng hb at_ j
    have r2 := bAt_rng hb q
    have r3 := rgTo_rng hb at_ (j + 1)
    have q0 : 0 ≤ q ∧ q < 65536 := by omega
    have wb : IntKind.u64.wrap (bAt b q) = bAt b q := by rw [IntKind.wrap_u64]; omega
    have p8 : (256 : Int) ^ (j + 1) ≤ 18446744073709551616 := by
      have : (256 : Nat) ^ (j + 1) ≤ 256 ^ 8 := Nat.pow_le_pow_right (by decide) (by omega)
      have : ((256 ^ (j + 1) : Nat) : Int) ≤ ((256 ^ 8 : Nat) : Int) := by exact_mod_cast this
      simpa using this
    have e : rgTo b at_ (j + 1) = rgTo b at_ j * 256 + bAt b q := by rw [hq]; rfl
    have wm : IntKind.u64.wrap (rgTo b at_ j * 256) = rgTo b at_ j * 256 := by rw [IntKind.wrap_u64]; omega
    have ws : IntKind.u64.wrap (rgTo b at_ j * 256 + bAt b q) = rgTo b at_ (j + 1) := by rw [IntKind.wrap_u64, e]; omega
    obtain ⟨E, hE⟩ : ∃ E, E = b.map fun x => [Y x] := ⟨_, rfl⟩
    have hEl : E.length = 65536 := by rw [hE, List.length_map, m3]
    rw [← hE] at m1 hg
    clear hE
    simp -dsimp [f0, f1, f5, f6, d8, m1, w1, w2, hg, wb, wm, ws, q0]
    exact ⟨j + 1, by omega, rfl, rfl, by omega⟩
  · have d8 : decide ((j : Int) ≤ 7) = false := decide_eq_false (by omega)
    have : j = 8 := by omega
    simp -dsimp [f5, d8]
    rw [this]
def rwHn (d : Nat) : Bool := d == 43 || d == 47
theorem rwordsV_ok {M : List Blk} {k : Nat} {lay : List Rg} {b : List Int} (m : RefV M k lay b) (hl : lay.length ≤ 16) (ho : ∀ r ∈ lay, r.Ok) : ACalls Tryz.prog 44 [.bp k 0] M (fun e M' => e = .ret (Us.sl (wordsL lay b)) ∧ M' = M) := by
  refine acalls_under fun hu _ => acalls_weakE (acalls_tidy (acalls_of_awp Tryz.func44 rfl (by kernel_rfl) ?_))
  have hk := lt_of_get m.me
  have hwl : (wordsL lay b).length = lay.length := by simp [wordsL]
  obtain ⟨W, hW⟩ : ∃ W, W = wordsL lay b := ⟨_, rfl⟩
  have hWi : ∀ i r, lay[i]? = some r → W[i]? = some (wordsR b r) := fun i r h => by rw [hW, wordsL, List.getElem?_map, h]; rfl
  rw [← hW] at hwl ⊢
  clear hW
  have hWi := Hid.mk hWi
  have ho := Hid.mk ho
  obtain ⟨B, hB⟩ : ∃ B, B = AV.vs 1 (b.map fun x => [Y x]) := ⟨_, rfl⟩
  have gm : ∀ {M' : List Blk} {t sz h es}, Own t sz M M' h es → M'[k]? = some (.box 98 [Rg.sl lay, B]) := fun o => by rw [hB]; exact o.old m.me
  refine awp_cut rwHn (fun _ => none) (fun f M' => M = M' ∧ f 0 = .bp k 0) (by kernel_rfl) ?_ ?_
  · simp -dsimp
  rintro f _ ⟨rfl, f0⟩
  refine awp_cut rwHn (fun _ => none) (fun f M' => M = M' ∧ f 0 = .bp k 0 ∧ f 3 = nilS) (by kernel_rfl) ?_ ?_
  · simp -dsimp [f0]
  clear f0 f
  rintro f _ ⟨rfl, f0, f3⟩
  refine awp_cutA (fun f M' => WdI M W lay.length (f 3) M') ?_ ?_
  rotate_left
  · clear f0 f3 f
    rintro f M' ⟨h, o, f3⟩
    refine awp_all rwHn (fun _ => none) (by kernel_rfl) ?_
    simp -dsimp [f3]
    refine tidy_rowA hu o (us_frzB _) (by simp; omega) ?_
    rw [List.take_of_length_le (by omega)]
    exact ⟨rfl, rfl⟩
  refine awp_cut rwHn (fun _ => none) (fun f M' => M = M' ∧ f 0 = .bp k 0 ∧ f 3 = nilS ∧ f 4 = I 0) (by kernel_rfl) ?_ ?_
  · simp -dsimp [f0, f3]
  clear f0 f3 f
  rintro f _ ⟨rfl, f0, f3, f4⟩
  refine awp_block ?_
  refine awp_loopI (fun (i : Nat) f M' => WdI M W i (f 3) M' ∧ f 0 = .bp k 0 ∧ f 4 = I i ∧ i ≤ lay.length) (fun i => lay.length - i) 0 ⟨⟨none, by simpa using Own.nil1 _ _ _, f3⟩, f0, f4, Nat.zero_le _⟩ ?_
  clear f0 f3 f4 f
  rintro i f M1 ⟨⟨h, o, f3⟩, f0, f4, hi⟩
  have gk := gm o
  obtain ⟨L1, rfl⟩ := o.pre
  refine awp_cut rwHn (fun _ => none) (fun f M' => M ++ L1 = M' ∧ f 0 = .bp k 0 ∧ f 3 = hrow h i ∧ f 4 = I i ∧ i < lay.length) (by kernel_rfl) ?_ ?_
  · simp -dsimp [f0, f3, f4, gk]
    refine condVW_introD (fun hlt => ?_) (fun hlt => ?_)
    · simp -dsimp [f0, f3, f4]
      omega
    · have : i = lay.length := by omega
      subst this
      simp -dsimp
      exact ⟨h, o, f3⟩
  clear f0 f3 f4 f
  rintro f _ ⟨rfl, f0, f3, f4, hlt⟩
  refine awp_cutA (fun f M' => WdI M W (i + 1) (f 3) M' ∧ f 0 = .bp k 0 ∧ f 4 = I i) ?_ ?_
  rotate_left
  · clear f0 f3 f4 f
    rintro f M2 ⟨ow, f0, f4⟩
    refine awp_all rwHn (fun _ => none) (by kernel_rfl) ?_
    simp -dsimp [f0, f4, ow]
    exact ⟨i + 1, by omega, ow, wrapS (by omega), by omega⟩
  have hr := List.getElem?_eq_getElem hlt
  obtain ⟨r, hre⟩ : ∃ r, r = lay[i] := ⟨_, rfl⟩
  rw [← hre] at hr
  have hre' : ∀ h : i < lay.length, lay[i]'h = r := fun h => hre.symm
  clear hre
  have hro := ho.out r (List.mem_of_getElem? hr)
  have hwi := hWi.out i r hr
  have g1 : (lay.map Rg.cells)[i]? = some [St r.name, I r.addr, I r.size, Bo r.secret] := by rw [List.getElem?_map, hr]; rfl
  have b1 := hro.s1
  have b2 := hro.s2
  have b3 := hro.a1
  have b4 := hro.a3
  refine awp_block ?_
  refine awp_cut rwHn (fun _ => none) (fun f M' => M ++ L1 = M' ∧ f 0 = .bp k 0 ∧ f 3 = hrow h i ∧ f 4 = I i ∧ f 5 = nilS) (by kernel_rfl) ?_ ?_
  · simp -dsimp [f0, f3, f4]
  clear f0 f3 f4 f
  rintro f _ ⟨rfl, f0, f3, f4, f5⟩
  obtain ⟨x, hx⟩ : ∃ x, x = wordsR b r := ⟨_, rfl⟩
  obtain ⟨p, hp⟩ : ∃ p : Nat, r.addr = p := ⟨r.addr.toNat, by omega⟩
  obtain ⟨s, hs⟩ : ∃ s : Nat, r.size = s := ⟨r.size.toNat, by omega⟩
  have hxl : x.length = s := by rw [hx, wordsR]; simp; omega
  have hxn : ∀ n, n < s → x[n]? = some (getW b (p + 8 * n)) := fun n hn => by
    rw [hx, wordsR, List.getElem?_map, List.getElem?_range (by omega)]
    have : r.addr.toNat = p := by omega
    rw [this]; rfl
  rw [← hx] at hwi
  rw [hp, hs] at g1
  clear hx
  have hxn := Hid.mk hxn
  obtain ⟨M2, hM2⟩ : ∃ M2, M2 = M ++ L1 := ⟨_, rfl⟩
  have mm : RefV M2 k lay b := by rw [hM2]; exact ⟨by rw [← hB]; exact gk, m.len, m.ok⟩
  rw [← hM2] at gk o ⊢
  refine awp_cut rwHn (fun _ => none) (fun f M' => WdJ M2 x s (f 5) M' ∧ f 0 = .bp k 0 ∧ f 3 = hrow h i ∧ f 4 = I i) (by kernel_rfl) ?_ ?_
  · simp -dsimp [f0, f3, f4, f5]
    refine loop_rule (hn := rwHn) (od := fun _ => none) (fun (n : Nat) g M' => WdJ M2 x n (g 5) M' ∧ g 0 = .bp k 0 ∧ g 3 = hrow h i ∧ g 4 = I i ∧ g 6 = I n ∧ n ≤ s) (fun n => s - n) (by kernel_rfl) 0 (by refine ⟨⟨none, by simpa using Own.nil1 _ _ _, by simp [f5]; rfl⟩, by simp [f0], by simp [f3], by simp [f4], by simp, by omega⟩) ?_
    clear f0 f3 f4 f5 f
    rintro n f M3 ⟨⟨h2, o2, f5⟩, f0, f3, f4, f6, hn⟩
    have gb3 := o2.old gk
    have li : 0 ≤ (i : Int) ∧ (i : Int) < (lay.length : Int) := by omega
    simp -dsimp [f0, f3, f4, f5, f6, gb3, g1, li, hre', hp, hs]
    refine condVW_introD (fun hlt2 => ?_) (fun hlt2 => ?_)
    · have hlt2' : n < s := by omega
      have mm3 : RefV M3 k lay b := ⟨o2.old mm.me, mm.len, mm.ok⟩
      have cg := rgetV_ok mm3 (p + 8 * n) (by omega)
      have w1 : IntKind.i64.wrap (8 * (n : Int)) = ((8 * n : Nat) : Int) := by rw [wrapI (by omega) (by omega)]; omega
      have w2 : IntKind.i64.wrap ((p : Int) + ((8 * n : Nat) : Int)) = ((p + 8 * n : Nat) : Int) := by rw [wrapI (by omega) (by omega)]; omega
      have w3 : IntKind.i64.wrap ((p : Int) + (8 : Int) * (n : Int)) = ((p + 8 * n : Nat) : Int) := by rw [wrapI (by omega) (by omega)]; omega
      have hq := hxn.out n hlt2'
      obtain ⟨q, hqe⟩ : ∃ q, q = p + 8 * n := ⟨_, rfl⟩
      rw [← hqe] at w2 w3 cg hq
      have htk : x.take (n + 1) = x.take n ++ [getW b q] := by rw [List.take_add_one, hq]; rfl
      have hel : (WoE (x.take n)).length = n := by simp; omega
      simp -dsimp [f0, f3, f4, f5, f6, gb3, g1, li, hre', hp, hs, w1, w2, w3]
      refine acallsW_det cg ?_
      simp -dsimp [f0, f3, f4, f5, f6, rwHn]
      refine app_own o2 hel.symm rfl rfl (by simp; omega) (by simp; omega) fun h' M' o' _ => ?_
      have e1 : WoE (x.take n) ++ [[U (getW b q)]] = WoE (x.take (n + 1)) := by rw [htk]; simp
      rw [e1] at o'
      have e2 : (WoE (x.take n) ++ [[U (getW b q)]]).length = n + 1 := by simp; omega
      rw [e2]
      simp -dsimp [f0, f3, f4, f6]
      exact ⟨n + 1, by omega, ⟨h', o', rfl⟩, wrapS (by omega), by omega⟩
    · have he : n = s := by omega
      subst he
      simp -dsimp [f0, f3, f4, f5]
      exact ⟨h2, o2, rfl⟩
  clear f0 f3 f4 f5 f
  rintro f M3 ⟨⟨h2, o2, f5⟩, f0, f3, f4⟩
  rw [List.take_of_length_le (by omega)] at o2
  have oB : Own 23 1 M M3 h2 (WoE x) := by
    rw [hM2] at o2
    exact o2.less
  have hne : ∀ j, h2 = some j → h ≠ some j := fun j hj e => by
    have h1 := o2.new j hj
    have h3 := lt_of_get (o.row j e)
    omega
  have hrow3 : ∀ j, h = some j → M3[j]? = some (.row 130 1 (UsE (W.take i))) := fun j hj => o2.old (o.row j hj)
  refine awp_giveX 5 hu oB (wo_frzB _) f5 (by simp; omega) fun M4 f' a6 hpre aS aB => ?_
  have e0 : f' 0 = .bp k 0 := by rw [aS 0 (by decide) fun j hj hge => by rw [f0]; exact frz_id hge _ (by simp [AV.under]; omega), f0]
  have e3 : f' 3 = hrow h i := by rw [aS 3 (by decide) fun j hj _ => by rw [f3]; exact frz_hrow_ne (hne j hj), f3]
  have e4 : f' 4 = I i := by rw [aS 4 (by decide) fun j hj _ => by rw [f4]; rfl, f4]
  have o4 : Own 130 1 M M4 h (UsE (W.take i)) := ⟨hpre, fun j hj => aB j _ (fun e => hne j e hj) (hrow3 j hj) (by
    have hz' := us_frzB (W.take i)
    rw [List.all_eq_true] at hz'
    simp only [Blk.under, List.all_eq_true]
    intro e he
    exact underL_frzB _ e (fun c hc => hz' c (List.mem_flatten.2 ⟨e, he, hc⟩))), o.nil, o.new⟩
  refine awp_all rwHn (fun _ => none) (by kernel_rfl) ?_
  have hel : (UsE (W.take i)).length = i := by simp; omega
  have htk : W.take (i + 1) = W.take i ++ [x] := by rw [List.take_add_one, hwi]; rfl
  simp -dsimp [e0, e3, e4, a6, rwHn]
  refine app_own o4 hel.symm rfl rfl (by simp; omega) (by simp; omega) fun h' M' o' _ => ?_
  have e1 : UsE (W.take i) ++ [[Wo.sl x]] = UsE (W.take (i + 1)) := by rw [htk]; simp
  rw [e1] at o'
  have e2 : (UsE (W.take i) ++ [[Wo.sl x]]).length = i + 1 := by simp; omega
  rw [e2]
  simp -dsimp [e0, e3, e4]
  exact ⟨h', o', rfl⟩
theorem mstackE_ok {M : List Blk} {k kb : Nat} {lay : List Rg} {b : List Int} (m : MemAt M k kb lay b) : ACalls Tryz.prog 45 [.bp k 0] M (fun e M' => e = .ret (.vs 1 (((b.drop 49152).take 16384).map fun x => [Y x])) ∧ M' = M) := by
  refine acalls_of_vc (hn := fun _ => false) (od := fun _ => none) Tryz.func45 rfl (by kernel_rfl) ?_
  have ct := mthere_ok m
  have cl := bclone_ok (M := M) (kb := kb) (o := 49152) (n := 16384) m.bytes (by rw [m.len]; omega) (by omega) (by omega)
  obtain ⟨E, hE⟩ : ∃ E, E = ((b.drop 49152).take 16384).map fun x => [Y x] := ⟨_, rfl⟩
  rw [← hE] at cl ⊢
  obtain ⟨m1, m2, m3⟩ := m
  simp -dsimp
  refine acallsW_det ct ?_
  simp -dsimp [m1, m2]
  refine acallsW_det cl ?_
  simp -dsimp
end Go.Proofs
