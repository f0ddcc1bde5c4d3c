/- A memory made: of noughts, of words. -/
import Derived.Test.YteoimifnfkpdeaaGreatFwYtoL9
set_option linter.unusedVariables false
set_option linter.unusedSimpArgs false
set_option maxHeartbeats 4000000
set_option maxRecDepth 100000
namespace Go.Proofs
open Go.Mu
theorem rg_frzB (l : List Rg) : (l.map Rg.cells).flatten.all AV.frzB = true := by
  rw [List.all_eq_true]
  intro c hc
  obtain ⟨e, he, hce⟩ := List.mem_flatten.1 hc
  obtain ⟨x, _, rfl⟩ := List.mem_map.1 he
  simp only [Rg.cells, List.mem_cons, List.mem_nil_iff, or_false] at hce
  rcases hce with rfl | rfl | rfl | rfl <;> rfl
theorem rgclone_ok (l : List Rg) (hl : l.length ≤ 2^36) (H : List Blk) : ACalls Tryz.prog 86 [Rg.sl l] H (fun e H' => e = .ret (Rg.sl l) ∧ H' = H) := by
  refine acalls_under fun hu _ => acalls_tidy (acalls_weakE (acalls_of_vc (hn := fun d => d == 5 || d == 7) (od := fun _ => none) Tryz.func86 rfl (by kernel_rfl) ?_))
  have fin : ∀ L, WeakE (Tidy H fun e H' => e = AE.ret (Rg.sl l) ∧ H' = H) (.ret (.hs H.length 0 l.length l.length)) (H ++ .row 134 4 (l.map Rg.cells) :: L) := fun L => by
    refine tidy_weak (.refl _) ?_
    refine tidy_give1 hu 4 _ _ (rg_frzB l) ?_ ?_
    · simp [AV.frz, AV.under]
    · have : (AV.hs H.length 0 l.length l.length).frz H.length 4 (l.map Rg.cells) = Rg.sl l := by
        simp [AV.frz]
        exact List.take_of_length_le (by simp)
      rw [this]
      exact ⟨rfl, rfl⟩
  have hl2 : (l.map Rg.cells).length = l.length := by simp
  obtain ⟨T, hT⟩ : ∃ T, T = l.map Rg.cells := ⟨_, rfl⟩
  have hRg : Rg.sl l = .vs 4 T := by rw [hT]
  rw [← hT] at fin hl2
  rw [hRg] at fin ⊢
  rw [← hl2] at fin
  clear hT hRg
  simp -dsimp
  refine slNilW_vs (fun hne => ?_) (fun he => ⟨?_, ?_⟩)
  · simp -dsimp
    refine appendVW_hs (es := []) (by simp) rfl rfl (by rw [hl2]; show (0 + l.length) * 40 ≤ _; omega) (by rw [hl2]; show 0 + l.length ≤ _; omega) ?_
    simp -dsimp
    simpa using fin []
  · simp -dsimp
    subst he
    refine tidy_weak (.nil 4) ?_
    exact tidy_now rfl ⟨rfl, rfl⟩
  · simp -dsimp
    refine appendVW_hs (es := []) (by simp) rfl rfl (by rw [hl2]; show (0 + l.length) * 40 ≤ _; omega) (by rw [hl2]; show 0 + l.length ≤ _; omega) ?_
    simp -dsimp
    simpa using fin []
abbrev GM (H : List Blk) (l : List Rg) (b : List Int) : List Blk := H ++ [byB b, meB l H.length]
theorem gm_at' (H : List Blk) (l : List Rg) {b : List Int} (hb : b.length = 65536) : MemAt (GM H l b) (H.length + 1) H.length l b := ⟨by simp [GM], by simp [GM], hb⟩
theorem gm_set (H : List Blk) (l : List Rg) (b c : List Int) : (GM H l b).set H.length (byB c) = GM H l c := by simp [GM]
theorem mnew_ok (l : List Rg) (hm : mayL l = true) (H : List Blk) : ACalls Tryz.prog 50 [Rg.sl l] H (fun e H' => e = .ret (.tup [.bp (H.length + 1) 0, I 0]) ∧ H' = GM H l zeroB) := by
  refine acalls_of_vc (hn := fun _ => false) (od := fun _ => none) Tryz.func50 rfl (by kernel_rfl) ?_
  have h16 := (mayL_ok hm).1
  have c1 := fun H => mmay_ok l (by omega) H
  rw [hm] at c1
  have c2 := fun H => rgclone_ok l (by omega) H
  have bb := bldBig
  obtain ⟨z, hz⟩ : ∃ z, z = zeroB := ⟨_, rfl⟩
  rw [← hz] at bb ⊢
  have e1 : (z.map (Value.int .u8)).map AV.v = z.map Y := by rw [List.map_map]; rfl
  have e2 : z.map (AV.v ∘ Value.int .u8) = z.map Y := rfl
  clear hz
  simp -dsimp
  refine acallsW_det (c1 _) ?_
  simp -dsimp
  refine acallsW_det (c2 _) ?_
  simp -dsimp [bb]
def fillRow (b : List Int) (a : Nat) (x : List Int) : Nat → List Int
  | 0 => b
  | n + 1 => putW (fillRow b a x n) (a + 8 * n) (x.getD n 0)
def fillTo (z : List Int) (l : List Rg) (w : List (List Int)) : Nat → List Int
  | 0 => z
  | i + 1 => match l[i]?, w[i]? with | some r, some x => fillRow (fillTo z l w i) r.addr.toNat x x.length | _, _ => fillTo z l w i
noncomputable def fillB (l : List Rg) (w : List (List Int)) : List Int := fillTo zeroB l w l.length
theorem fillRow_len (b : List Int) (a : Nat) (x : List Int) : ∀ n, (fillRow b a x n).length = b.length
  | 0 => rfl
  | n + 1 => by rw [fillRow, putW, putTo_len, fillRow_len b a x n]
theorem fillTo_len (z : List Int) (l : List Rg) (w : List (List Int)) : ∀ i, (fillTo z l w i).length = z.length
  | 0 => rfl
  | i + 1 => by
    rw [fillTo]
    split
    · rw [fillRow_len, fillTo_len z l w i]
    · exact fillTo_len z l w i
theorem fillB_len (l : List Rg) (w : List (List Int)) : (fillB l w).length = 65536 := by rw [fillB, fillTo_len, zeroB_len]
theorem mof_ok (l : List Rg) (w : List (List Int)) (hm : mayL l = true) (hf : fitsL l w = true) (H : List Blk) : ACalls Tryz.prog 24 [Rg.sl l, Us.sl w] H (fun e H' => e = .ret (.tup [.bp (H.length + 1) 0, I 0]) ∧ H' = GM H l (fillB l w)) := by
  refine acalls_of_vc (hn := fun _ => false) (od := fun _ => none) Tryz.func24 rfl (by kernel_rfl) ?_
  obtain ⟨h16, hok⟩ := mayL_ok hm
  obtain ⟨hlw, hsz⟩ := fits_at hf
  have c1 := fun H => mnew_ok l hm H
  have dlw : ((w.length : Int) != (l.length : Int)) = false := by simp [hlw]
  have cp := fun (b : List Int) (hb : b.length = 65536) (a : Nat) (ha : a ≤ 65528) (x : Int) => mput_ok (gm_at' H l hb) a ha x
  simp only [gm_set] at cp
  have hlen := fillTo_len zeroB l w
  rw [zeroB_len] at hlen
  have hfin : fillB l w = fillTo zeroB l w l.length := rfl
  have h0 : zeroB = fillTo zeroB l w 0 := rfl
  have hstep : ∀ (i : Nat) r x, l[i]? = some r → w[i]? = some x → fillTo zeroB l w (i + 1) = fillRow (fillTo zeroB l w i) r.addr.toNat x x.length := fun i r x h1 h2 => by rw [fillTo, h1, h2]
  obtain ⟨FT, hFT⟩ : ∃ FT, FT = fillTo zeroB l w := ⟨_, rfl⟩
  rw [← hFT] at hlen hfin hstep
  rw [h0, ← hFT] at c1
  rw [hfin]
  clear hFT hfin h0 hm hf
  have hok := Hid.mk hok
  have hsz := Hid.mk hsz
  have hlen := Hid.mk hlen
  have hstep := Hid.mk hstep
  have hlw := Hid.mk hlw
  simp -dsimp
  refine acallsW_of (c1 _) ?_
  rintro e _ ⟨rfl, rfl⟩
  simp -dsimp [dlw]
  refine loop_rule (hn := fun _ => false) (od := fun _ => none) (fun (i : Nat) f M => GM H l (FT i) = M ∧ f 0 = Rg.sl l ∧ f 6 = .bp (H.length + 1) 0 ∧ f 26 = Us.sl w ∧ f 27 = I w.length ∧ f 28 = I i ∧ i ≤ w.length) (fun i => w.length - i) (by kernel_rfl) 0 (by refine ⟨rfl, by simp, by simp, by simp, by simp, by simp, by omega⟩) ?_
  rintro i f _ ⟨rfl, f0, f6, f26, f27, f28, hi⟩
  simp -dsimp [f0, f6, f26, f27, f28]
  refine condVW_introD (fun hlt => ?_) (fun hlt => ?_)
  · have hlt' : i < w.length := by omega
    have hy := List.getElem?_eq_getElem hlt'
    have hx := List.getElem?_eq_getElem (show i < l.length by rw [hlw.out]; exact hlt')
    obtain ⟨x, hxe⟩ : ∃ x, x = w[i] := ⟨_, rfl⟩
    obtain ⟨a, hae⟩ : ∃ a, a = l[i]'(by rw [hlw.out]; exact hlt') := ⟨_, rfl⟩
    rw [← hae] at hx
    rw [← hxe] at hy
    clear hae hxe
    have g1 : (l.map Rg.cells)[i]? = some [St a.name, I a.addr, I a.size, Bo a.secret] := by rw [List.getElem?_map, hx]; rfl
    have g2 : (w.map fun x => [Wo.sl x])[i]? = some [Wo.sl x] := by rw [List.getElem?_map, hy]; rfl
    have hao := hok.out a (List.mem_of_getElem? hx)
    have hs := hsz.out i a x hx hy
    have ds : ((x.length : Int) != a.size) = false := by simp [hs]
    have hst := hstep.out i a x hx hy
    have b2 := hao.s2
    have b3 := hao.a1
    have b4 := hao.a3
    obtain ⟨p, hp⟩ : ∃ p : Nat, a.addr = p := ⟨a.addr.toNat, by omega⟩
    have hpt : a.addr.toNat = p := by omega
    rw [hpt] at hst
    rw [hp] at g1
    have hFl := hlen.out i
    obtain ⟨b, hb⟩ : ∃ b, b = FT i := ⟨_, rfl⟩
    rw [← hb] at hst hFl ⊢
    have hrl : ∀ n, (fillRow b p x n).length = 65536 := fun n => by rw [fillRow_len, hFl]
    have hr0 : b = fillRow b p x 0 := rfl
    have hrs : ∀ n, fillRow b p x (n + 1) = putW (fillRow b p x n) (p + 8 * n) (x.getD n 0) := fun n => rfl
    obtain ⟨FR, hFR⟩ : ∃ FR, FR = fillRow b p x := ⟨_, rfl⟩
    rw [← hFR] at hst hrl hr0 hrs
    rw [hr0]
    clear hFR hb hr0
    have hst := Hid.mk hst
    have hrl := Hid.mk hrl
    have hrs := Hid.mk hrs
    have hpb : p + 8 * x.length ≤ 49152 := by omega
    have hs := Hid.mk hs
    simp -dsimp [f0, f6, f26, f27, f28, g1, g2, ds]
    refine loop_rule (hn := fun _ => false) (od := fun _ => none) (fun (k : Nat) g M => GM H l (FR k) = M ∧ g 0 = Rg.sl l ∧ g 6 = .bp (H.length + 1) 0 ∧ g 8 = I i ∧ g 26 = Us.sl w ∧ g 27 = I w.length ∧ g 28 = I i ∧ g 41 = Wo.sl x ∧ g 42 = I x.length ∧ g 43 = I k ∧ k ≤ x.length) (fun k => x.length - k) (by kernel_rfl) 0 (by refine ⟨rfl, by simp [f0], by simp [f6], by simp, by simp [f26], by simp [f27], by simp [f28], by simp, by simp, by simp, by omega⟩) ?_
    clear f0 f6 f26 f27 f28 f
    rintro k f _ ⟨rfl, f0, f6, f8, f26, f27, f28, f41, f42, f43, hk⟩
    simp -dsimp [f0, f6, f8, f26, f27, f28, f41, f42, f43]
    refine condVW_introD (fun hlt2 => ?_) (fun hlt2 => ?_)
    · have hlt2' : k < x.length := by omega
      have hv := getD_at (b := x) (i := k) hlt2'
      obtain ⟨v, hve⟩ : ∃ v, v = x.getD k 0 := ⟨_, rfl⟩
      have hn := hrs.out k
      rw [← hve] at hv hn
      clear hve
      obtain ⟨q, hq⟩ : ∃ q, q = p + 8 * k := ⟨_, rfl⟩
      rw [← hq] at hn
      have w1 : IntKind.i64.wrap (8 * (k : Int)) = ((8 * k : Nat) : Int) := by rw [wrapI (by omega) (by omega)]; omega
      have w2 : IntKind.i64.wrap ((p : Int) + ((8 * k : Nat) : Int)) = (q : Int) := by rw [wrapI (by omega) (by omega)]; omega
      have w3 : IntKind.i64.wrap ((p : Int) + (8 : Int) * (k : Int)) = (q : Int) := by rw [wrapI (by omega) (by omega)]; omega
      have cq := cp (FR k) (hrl.out k) q (by omega) v
      have hn := Hid.mk hn
      simp -dsimp [f0, f6, f8, f26, f27, f28, f41, f42, f43, g1, hv, w1, w2, w3]
      refine acallsW_of cq ?_
      rintro e _ ⟨rfl, rfl⟩
      simp -dsimp [f0, f6, f8, f26, f27, f28, f41, f42, f43]
      exact ⟨k + 1, by omega, by rw [hn.out], wrapS (by omega), by omega⟩
    · simp -dsimp [f0, f6, f8, f26, f27, f28, f41, f42, f43]
      obtain rfl : k = x.length := by omega
      exact ⟨i + 1, by omega, by rw [hst.out], wrapS (by omega), by omega⟩
  · simp -dsimp [f0, f6, f26, f27, f28]
    obtain rfl : i = w.length := by omega
    rw [hlw.out]
end Go.Proofs
namespace Go.Proofs
open Go.Mu
theorem rgs_indexF (l : List Rg) (p : Rg → Bool) (g : FuncId) (cap : List AV) (hok : okFn Tryz.prog g = true) (hl : l.length ≤ 2^40) (H : List Blk) (hg : ∀ x ∈ l, ACalls Tryz.prog g (.agg x.cells :: cap) H (fun e H' => e = .ret (Bo (p x)) ∧ H' = H)) :
    ACalls Tryz.prog 183 [.vs 4 (l.map fun x => x.cells), .fn (.func g) [] cap] H (fun e H' => e = .ret (I (idxP p l 0)) ∧ H' = H) := by
  refine acalls_tidy (acalls_of_vc (hn := fun _ => false) (od := fun _ => none) Tryz.func183 rfl (by kernel_rfl) ?_)
  simp -dsimp
  refine loop_rule (hn := fun _ => false) (od := fun _ => none) (fun (i : Nat) f H' => H' = H ∧ f 0 = .vs 4 (l.map fun x => x.cells) ∧ f 1 = .fn (.func g) [] cap ∧ f 7 = I l.length ∧ f 8 = I i ∧ i ≤ l.length ∧ idxP p (l.drop i) i = idxP p l 0) (fun i => l.length - i) (by kernel_rfl) 0 (by simp) ?_
  rintro i f H' ⟨rfl, h0, h1, h7, h8, hi, hinv⟩
  simp -dsimp [h0, h1, h7, h8]
  refine condVW_introD (fun hlt => ?_) (fun hlt => ?_)
  · rw [drop_cons hlt, idxP] at hinv
    have hx := hg l[i] (List.getElem_mem hlt)
    try simp only [Vr.cells, Fc.cells] at hx
    simp -dsimp [h0, h1, h7, h8, List.getElem?_eq_getElem, hlt, hok]
    refine acallsW_det hx ?_
    simp -dsimp
    refine condVW_intro (fun hp => ?_) (fun hp => ?_)
    · simp -dsimp
      rw [if_pos hp] at hinv
      exact tidy_now rfl ⟨by rw [hinv], rfl⟩
    · simp -dsimp [h0, h1, h7, h8]
      rw [if_neg (by simp [hp])] at hinv
      exact ⟨i + 1, by omega, wrapS (by omega), by omega, by simpa using hinv⟩
  · simp -dsimp
    rw [drop_end hlt, idxP] at hinv
    exact tidy_now rfl ⟨by rw [hinv], rfl⟩
def hasA (a : Int) (r : Rg) : Bool := decide (r.addr ≤ a) && decide (a < r.fin)
theorem mhas_ok (a : Int) (r : Rg) (k : Nat) (H : List Blk) (hk : H[k]? = some (.box 3 [I a])) : ACalls Tryz.prog 182 [.agg r.cells, .bp k 0] H (fun e H' => e = .ret (Bo (hasA a r)) ∧ H' = H) := by
  refine acalls_tidy (acalls_of_vc (hn := fun _ => false) (od := fun _ => none) Tryz.func182 rfl (by kernel_rfl) ?_)
  have ce := fun H => mend_ok r H
  obtain ⟨E, hE⟩ : ∃ E, E = hasA a r := ⟨_, rfl⟩
  rw [← hE]
  unfold hasA at hE
  obtain ⟨c1, h1⟩ : ∃ c, c = decide (r.addr ≤ a) := ⟨_, rfl⟩
  obtain ⟨c2, h2⟩ : ∃ c, c = decide (a < r.fin) := ⟨_, rfl⟩
  rw [← h1, ← h2] at hE
  have h1 := h1.symm
  have h2 := h2.symm
  simp only [Rg.cells] at ce
  have hk' := get_app_old hk [.box 134 [St r.name, I r.addr, I r.size, Bo r.secret]]
  simp -dsimp [Rg.cells, hk', h1]
  cases c1
  · simp -dsimp
    rw [show E = false by simp [hE]]
    exact tidy_same rfl ⟨rfl, rfl⟩
  · simp -dsimp [hk']
    refine callDW_intro (ce _) ?_
    simp -dsimp [h2]
    rw [show E = c2 by simp [hE]]
    exact tidy_same rfl ⟨rfl, rfl⟩
def placeN (l : List Rg) (a : Int) : Int := if 65536 ≤ a then -2 else if 49152 ≤ a then -1 else if idxP (hasA a) l 0 < 0 then -2 else idxP (hasA a) l 0
theorem idxP_lt {α : Type} (p : α → Bool) : ∀ (l : List α) (i : Int), 0 ≤ i → -1 ≤ idxP p l i ∧ idxP p l i < i + l.length
  | [], i, h => by simp [idxP]; omega
  | a :: l, i, h => by
    rw [idxP]
    have := idxP_lt p l (i + 1) (by omega)
    split <;> simp <;> omega
theorem mplace_ok {M : List Blk} {k kb : Nat} {lay : List Rg} {b : List Int} (m : MemAt M k kb lay b) (hl : lay.length ≤ 16) (a : Int) (h0 : 0 ≤ a) (h1 : a < 2^64) : ACalls Tryz.prog 168 [.bp k 0, U a] M (fun e M' => (∃ q, e = .ret (.tup [I (placeN lay a), I q])) ∧ M' = M) := by
  refine acalls_tidy (acalls_of_vc (hn := fun _ => false) (od := fun _ => none) Tryz.func168 rfl (by kernel_rfl) ?_)
  have ct := mthere_ok m
  obtain ⟨m1, m2, m3⟩ := m
  obtain ⟨E, hE⟩ : ∃ E, E = placeN lay a := ⟨_, rfl⟩
  rw [← hE]
  unfold placeN at hE
  simp -dsimp
  refine acallsW_det ct ?_
  by_cases h2 : 65536 ≤ a
  · have d : decide (65536 ≤ a) = true := decide_eq_true h2
    rw [if_pos h2] at hE
    subst hE
    simp -dsimp [d]
    exact tidy_now rfl ⟨⟨_, rfl⟩, rfl⟩
  · have d : decide (65536 ≤ a) = false := decide_eq_false h2
    rw [if_neg h2] at hE
    have w1 : IntKind.i64.wrap a = a := wrapI (by omega) (by omega)
    by_cases h3 : 49152 ≤ a
    · have d3 : decide (49152 ≤ a) = true := decide_eq_true h3
      rw [if_pos h3] at hE
      subst hE
      simp -dsimp [d, w1, d3]
      exact tidy_same rfl ⟨⟨_, rfl⟩, rfl⟩
    · have d3 : decide (49152 ≤ a) = false := decide_eq_false h3
      rw [if_neg h3] at hE
      obtain ⟨N, hN⟩ : ∃ N, N = M ++ [Blk.box 3 [I a]] := ⟨_, rfl⟩
      have n1 : N[M.length]? = some (.box 3 [I a]) := by rw [hN]; simp
      have n2 : N[k]? = some (meB lay kb) := by rw [hN]; exact get_app_old m1 _
      have ci := rgs_indexF lay (hasA a) 182 [.bp M.length 0] (by kernel_rfl) (by omega) N (fun x _ => mhas_ok a x M.length N n1)
      simp only [Rg.cells] at ci n2
      have hb := idxP_lt (hasA a) lay 0 (by omega)
      obtain ⟨n, hn⟩ : ∃ n, n = idxP (hasA a) lay 0 := ⟨_, rfl⟩
      rw [← hn] at ci hE hb
      clear hn
      simp -dsimp [d, w1, d3]
      rw [← hN]
      simp -dsimp [n1, n2]
      refine acallsW_det ci ?_
      by_cases h4 : n < 0
      · have d4 : decide (n < 0) = true := decide_eq_true h4
        rw [if_pos h4] at hE
        subst hE
        simp -dsimp [d4]
        rw [hN]
        exact tidy_same rfl ⟨⟨_, rfl⟩, rfl⟩
      · have d4 : decide (n < 0) = false := decide_eq_false h4
        rw [if_neg h4] at hE
        obtain ⟨j, rfl⟩ : ∃ j : Nat, n = j := ⟨n.toNat, by omega⟩
        subst hE
        have hlt : j < lay.length := by omega
        have hx := List.getElem?_eq_getElem hlt
        have hg : (lay.map Rg.cells)[j]? = some [St lay[j].name, I lay[j].addr, I lay[j].size, Bo lay[j].secret] := by rw [List.getElem?_map, hx]; rfl
        simp -dsimp [d4, n1, n2, hg]
        rw [hN]
        exact tidy_same rfl ⟨⟨_, rfl⟩, rfl⟩
def askE (l : List Rg) (a : Int) : Int := if a.tmod 8 = 0 then (if placeN l a = -2 then 14 else 0) else 2
theorem mask_ok {M : List Blk} {k kb : Nat} {lay : List Rg} {b : List Int} (m : MemAt M k kb lay b) (hl : lay.length ≤ 16) (a : Int) (h0 : 0 ≤ a) (h1 : a < 2^64) : ACalls Tryz.prog 120 [.bp k 0, U a, U 8] M (fun e M' => e = .ret (I (askE lay a)) ∧ M' = M) := by
  refine acalls_of_vc (hn := fun _ => false) (od := fun _ => none) Tryz.func120 rfl (by kernel_rfl) ?_
  have ct := mthere_ok m
  have cp := mplace_ok m hl a h0 h1
  obtain ⟨E, hE⟩ : ∃ E, E = askE lay a := ⟨_, rfl⟩
  rw [← hE]
  unfold askE at hE
  obtain ⟨n, hn⟩ : ∃ n, n = placeN lay a := ⟨_, rfl⟩
  rw [← hn] at cp hE
  clear hn
  simp -dsimp
  refine acallsW_det ct ?_
  by_cases h8 : a.tmod 8 = 0
  · have d8 : (a.tmod 8 != 0) = false := by simp [h8]
    rw [if_pos h8] at hE
    simp -dsimp [d8]
    refine acallsW_of cp ?_
    rintro e _ ⟨⟨q, rfl⟩, rfl⟩
    by_cases h2 : n = -2
    · have d2 : (n == -2) = true := by simp [h2]
      rw [if_pos h2] at hE
      subst hE
      simp -dsimp [d2]
    · have d2 : (n == -2) = false := by simp [h2]
      rw [if_neg h2] at hE
      subst hE
      simp -dsimp [d2]
  · have d8 : (a.tmod 8 != 0) = true := by simp [h8]
    rw [if_neg h8] at hE
    subst hE
    simp -dsimp [d8]
theorem ask_low {l : List Rg} (hl : ∀ r ∈ l, r.Ok) {a : Int} (h0 : 0 ≤ a) (h : askE l a = 0) : a ≤ 65528 := by
  unfold askE at h
  split at h
  · rename_i h8
    split at h
    · omega
    · rename_i hp
      unfold placeN at hp
      have : ¬ 65536 ≤ a := fun e => by rw [if_pos e] at hp; exact hp rfl
      have h9 : a % 8 = 0 := by rw [Int.tmod_eq_emod_of_nonneg h0] at h8; exact h8
      omega
  · omega
theorem mload_ok {M : List Blk} {k kb : Nat} {lay : List Rg} {b : List Int} (m : MemAt M k kb lay b) (hl : lay.length ≤ 16) (ho : ∀ r ∈ lay, r.Ok) (a : Int) (h0 : 0 ≤ a) (h1 : a < 2^64) :
    ACalls Tryz.prog 84 [.bp k 0, U a] M (fun e M' => e = .ret (.tup [U (if askE lay a = 0 then getW b a.toNat else 0), I (askE lay a)]) ∧ M' = M) := by
  refine acalls_of_vc (hn := fun _ => false) (od := fun _ => none) Tryz.func84 rfl (by kernel_rfl) ?_
  have ca := mask_ok m hl a h0 h1
  have hlow := ask_low ho h0
  obtain ⟨n, hn⟩ : ∃ n, n = askE lay a := ⟨_, rfl⟩
  rw [← hn] at ca hlow ⊢
  clear hn
  simp -dsimp
  refine acallsW_det ca ?_
  by_cases h : n = 0
  · subst h
    have hlow := hlow rfl
    obtain ⟨p, rfl⟩ : ∃ p : Nat, a = p := ⟨a.toNat, by omega⟩
    have w1 : IntKind.i64.wrap (p : Int) = p := wrapI (by omega) (by omega)
    have cg := mget_ok m p (by omega)
    simp -dsimp [w1]
    refine acallsW_det cg ?_
    simp -dsimp
  · have d : (n != 0) = true := by simp [h]
    simp -dsimp [d, h]
theorem mstore_ok {M : List Blk} {k kb : Nat} {lay : List Rg} {b : List Int} (m : MemAt M k kb lay b) (hl : lay.length ≤ 16) (ho : ∀ r ∈ lay, r.Ok) (a : Int) (h0 : 0 ≤ a) (h1 : a < 2^64) (x : Int) :
    ACalls Tryz.prog 85 [.bp k 0, U a, U x] M (fun e M' => e = .ret (I (askE lay a)) ∧ M' = M.set kb (byB (if askE lay a = 0 then putW b a.toNat x else b))) := by
  refine acalls_of_vc (hn := fun _ => false) (od := fun _ => none) Tryz.func85 rfl (by kernel_rfl) ?_
  have ca := mask_ok m hl a h0 h1
  have hlow := ask_low ho h0
  have hself := setSelf m.bytes
  obtain ⟨n, hn⟩ : ∃ n, n = askE lay a := ⟨_, rfl⟩
  rw [← hn] at ca hlow ⊢
  clear hn
  simp -dsimp
  refine acallsW_det ca ?_
  by_cases h : n = 0
  · subst h
    have hlow := hlow rfl
    obtain ⟨p, rfl⟩ : ∃ p : Nat, a = p := ⟨a.toNat, by omega⟩
    have w1 : IntKind.i64.wrap (p : Int) = p := wrapI (by omega) (by omega)
    have cg := mput_ok m p (by omega) x
    simp -dsimp [w1]
    refine acallsW_of cg ?_
    rintro e _ ⟨rfl, rfl⟩
    simp -dsimp
  · have d : (n == 0) = false := by simp [h]
    simp -dsimp [d, h]
    exact hself.symm
end Go.Proofs
namespace Go.Proofs
open Go.Mu
theorem mlayout_ok {M : List Blk} {k kb : Nat} {lay : List Rg} {b : List Int} (m : MemAt M k kb lay b) (hl : lay.length ≤ 2^36) : ACalls Tryz.prog 48 [.bp k 0] M (fun e M' => e = .ret (Rg.sl lay) ∧ M' = M) := by
  refine acalls_of_vc (hn := fun _ => false) (od := fun _ => none) Tryz.func48 rfl (by kernel_rfl) ?_
  have t1 := mthere_ok m
  have cl := rgclone_ok lay hl M
  have g1 := m.me
  simp -dsimp [g1]
  refine acallsW_det t1 ?_
  simp -dsimp [g1]
  refine acallsW_det cl ?_
  simp -dsimp [g1]
theorem swords_ok (w : List (List Int)) (hw : w.length ≤ 2^40) (hx : ∀ x ∈ w, x.length ≤ 2^40) (H : List Blk) : ACalls Tryz.prog 17 [Us.sl w, Us.sl w] H (fun e H' => e = .ret (Bo true) ∧ H' = H) := by
  refine acalls_tidy (acalls_of_vc (hn := fun _ => false) (od := fun _ => none) Tryz.func17 rfl (by kernel_rfl) ?_)
  have hx := Hid.mk hx
  simp -dsimp
  refine loop_rule (hn := fun _ => false) (od := fun _ => none) (fun (i : Nat) f H' => H = H' ∧ f 0 = Us.sl w ∧ f 1 = Us.sl w ∧ f 5 = I i ∧ i ≤ w.length) (fun i => w.length - i) (by kernel_rfl) 0 (by simp) ?_
  rintro i f _ ⟨rfl, h0, h1', h5, hi⟩
  simp -dsimp [h0, h1', h5]
  refine condVW_introD (fun hlt => ?_) (fun hlt => ?_)
  · have e1 := List.getElem?_eq_getElem (show i < w.length by omega)
    obtain ⟨x, hxe⟩ : ∃ x, x = w[i]'(by omega) := ⟨_, rfl⟩
    rw [← hxe] at e1
    have hxl := hx.out x (List.mem_of_getElem? e1)
    clear hxe
    have q2 : (w.map fun x => [Wo.sl x])[i]? = some [Wo.sl x] := by rw [List.getElem?_map, e1]; rfl
    simp -dsimp [h0, h1', h5, q2]
    refine loop_rule (hn := fun _ => false) (od := fun _ => none) (fun (n : Nat) g H' => H = H' ∧ g 0 = Us.sl w ∧ g 1 = Us.sl w ∧ g 5 = I i ∧ g 6 = I n ∧ n ≤ x.length) (fun n => x.length - n) (by kernel_rfl) 0 (by refine ⟨rfl, by simp [h0], by simp [h1'], by simp [h5], by simp, by omega⟩) ?_
    clear h0 h1' h5 f
    rintro n f _ ⟨rfl, h0, h1', h5, h6, hk⟩
    simp -dsimp [h0, h1', h5, h6, q2]
    refine condVW_introD (fun hlt2 => ?_) (fun hlt2 => ?_)
    · have hv := getD_at (b := x) (i := n) (by omega)
      obtain ⟨v, hve⟩ : ∃ v, v = x.getD n 0 := ⟨_, rfl⟩
      rw [← hve] at hv
      clear hve
      simp -dsimp [h0, h1', h5, h6, q2, hv]
      exact ⟨n + 1, by omega, wrapS (by omega), by omega⟩
    · simp -dsimp [h0, h1', h5, h6]
      exact ⟨i + 1, by omega, wrapS (by omega), by omega⟩
  · simp -dsimp
    exact tidy_now rfl ⟨rfl, rfl⟩
end Go.Proofs
namespace Go.Proofs
open Go.Mu
def wordsR (b : List Int) (r : Rg) : List Int := (List.range r.size.toNat).map fun k => getW b (r.addr.toNat + 8 * k)
def wordsL (lay : List Rg) (b : List Int) : List (List Int) := lay.map (wordsR b)
abbrev UsE (w : List (List Int)) : List (List AV) := w.map fun x => [Wo.sl x]
abbrev WoE (w : List Int) : List (List AV) := w.map fun x => [U x]
def WdI (M : List Blk) (w : List (List Int)) (i : Nat) (v : AV) (M' : List Blk) : Prop := ∃ h, Own 26 1 M M' h (UsE (w.take i)) ∧ v = hrow h i
def WdJ (N : List Blk) (x : List Int) (n : Nat) (v : AV) (M' : List Blk) : Prop := ∃ h, Own 29 1 N M' h (WoE (x.take n)) ∧ v = hrow h n
theorem wo_frzB (x : List Int) : (WoE x).flatten.all AV.frzB = true := by
  rw [List.all_eq_true]
  intro c hc
  rw [List.mem_flatten] at hc
  obtain ⟨e, he, hc⟩ := hc
  obtain ⟨y, _, rfl⟩ := List.mem_map.1 he
  simp at hc
  subst hc
  rfl
theorem us_frzB (w : List (List Int)) : (UsE w).flatten.all AV.frzB = true := by
  rw [List.all_eq_true]
  intro c hc
  rw [List.mem_flatten] at hc
  obtain ⟨e, he, hc⟩ := hc
  obtain ⟨y, _, rfl⟩ := List.mem_map.1 he
  simp at hc
  subst hc
  exact (show (AV.vs 1 (WoE y)).frzB = true from by simp [AV.frzB])
def wdHn (d : Nat) : Bool := d == 29 || d == 34
theorem mwords_ok {M : List Blk} {k kb : Nat} {lay : List Rg} {b : List Int} (m : MemAt M k kb lay b) (hl : lay.length ≤ 16) (ho : ∀ r ∈ lay, r.Ok) : ACalls Tryz.prog 18 [.bp k 0] M (fun e M' => e = .ret (Us.sl (wordsL lay b)) ∧ M' = M) := by
  refine acalls_under fun hu _ => acalls_weakE (acalls_tidy (acalls_of_awp Tryz.func18 rfl (by kernel_rfl) ?_))
  have cl := mlayout_ok m (by omega)
  have hk := lt_of_get m.me
  have hwl : (wordsL lay b).length = lay.length := by simp [wordsL]
  obtain ⟨W, hW⟩ : ∃ W, W = wordsL lay b := ⟨_, rfl⟩
  have hWi : ∀ i r, lay[i]? = some r → W[i]? = some (wordsR b r) := fun i r h => by rw [hW, wordsL, List.getElem?_map, h]; rfl
  rw [← hW] at hwl ⊢
  clear hW
  have hWi := Hid.mk hWi
  have ho := Hid.mk ho
  refine awp_cut wdHn (fun _ => none) (fun f M' => M = M' ∧ f 0 = .bp k 0) (by kernel_rfl) ?_ ?_
  · simp -dsimp
  rintro f _ ⟨rfl, f0⟩
  refine awp_cut wdHn (fun _ => none) (fun f M' => M = M' ∧ f 0 = .bp k 0 ∧ f 3 = nilS) (by kernel_rfl) ?_ ?_
  · simp -dsimp [f0]
  clear f0 f
  rintro f _ ⟨rfl, f0, f3⟩
  refine awp_cutA (fun f M' => WdI M W lay.length (f 3) M') ?_ ?_
  rotate_left
  · clear f0 f3 f
    rintro f M' ⟨h, o, f3⟩
    refine awp_all wdHn (fun _ => none) (by kernel_rfl) ?_
    simp -dsimp [f3]
    refine tidy_rowA hu o (us_frzB _) (by simp; omega) ?_
    rw [List.take_of_length_le (by omega)]
    exact ⟨rfl, rfl⟩
  refine awp_cut wdHn (fun _ => none) (fun f M' => M = M' ∧ f 0 = .bp k 0 ∧ f 3 = nilS ∧ f 9 = Rg.sl lay ∧ f 10 = I lay.length ∧ f 11 = I 0) (by kernel_rfl) ?_ ?_
  · simp -dsimp [f0, f3]
    refine acallsW_det cl ?_
    simp -dsimp [f0, f3]
  clear f0 f3 f
  rintro f _ ⟨rfl, f0, f3, f9, f10, f11⟩
  refine awp_block ?_
  refine awp_loopI (fun (i : Nat) f M' => WdI M W i (f 3) M' ∧ f 0 = .bp k 0 ∧ f 9 = Rg.sl lay ∧ f 10 = I lay.length ∧ f 11 = I i ∧ i ≤ lay.length) (fun i => lay.length - i) 0 ⟨⟨none, by simpa using Own.nil1 _ _ _, f3⟩, f0, f9, f10, f11, Nat.zero_le _⟩ ?_
  clear f0 f3 f9 f10 f11 f
  rintro i f M1 ⟨ow, f0, f9, f10, f11, hi⟩
  refine awp_cut wdHn (fun _ => none) (fun f M' => M1 = M' ∧ WdI M W i (f 3) M' ∧ f 0 = .bp k 0 ∧ f 9 = Rg.sl lay ∧ f 10 = I lay.length ∧ f 11 = I i ∧ f 12 = Bo (decide (i < lay.length))) (by kernel_rfl) ?_ ?_
  · simp -dsimp [f0, f9, f10, f11, ow]
  clear f0 f9 f10 f11 ow f
  rintro f _ ⟨rfl, ow, f0, f9, f10, f11, f12⟩
  refine awp_cut wdHn (fun _ => none) (fun f M' => M1 = M' ∧ WdI M W i (f 3) M' ∧ f 0 = .bp k 0 ∧ f 9 = Rg.sl lay ∧ f 10 = I lay.length ∧ f 11 = I i ∧ i < lay.length) (by kernel_rfl) ?_ ?_
  · simp -dsimp [f12]
    refine condVW_introD (fun hlt => ?_) (fun hlt => ?_)
    · simp -dsimp [f0, f9, f10, f11, ow, hlt]
    · have : i = lay.length := by omega
      subst this
      simp -dsimp [ow]
  clear f0 f9 f10 f11 f12 ow f
  rintro f _ ⟨rfl, ow, f0, f9, f10, f11, hlt⟩
  refine awp_cutA (fun f M' => WdI M W (i + 1) (f 3) M' ∧ f 0 = .bp k 0 ∧ f 9 = Rg.sl lay ∧ f 10 = I lay.length ∧ f 11 = I i) ?_ ?_
  rotate_left
  · clear f0 f9 f10 f11 ow f
    rintro f M2 ⟨ow, f0, f9, f10, f11⟩
    refine awp_all wdHn (fun _ => none) (by kernel_rfl) ?_
    simp -dsimp [f0, f9, f10, f11, ow]
    exact ⟨i + 1, by omega, ow, wrapS (by omega), by omega⟩
  obtain ⟨h, o, f3⟩ := ow
  obtain ⟨L1, rfl⟩ := o.pre
  have hr := List.getElem?_eq_getElem hlt
  obtain ⟨r, hre⟩ : ∃ r, r = lay[i] := ⟨_, rfl⟩
  rw [← hre] at hr
  clear hre
  have hro := ho.out r (List.mem_of_getElem? hr)
  have hwi := hWi.out i r hr
  have g1 : (lay.map Rg.cells)[i]? = some [St r.name, I r.addr, I r.size, Bo r.secret] := by rw [List.getElem?_map, hr]; rfl
  have b1 := hro.s1
  have b2 := hro.s2
  have b3 := hro.a1
  have b4 := hro.a3
  obtain ⟨q5, hq5⟩ : ∃ q, q = (M ++ L1).length := ⟨_, rfl⟩
  refine awp_block ?_
  refine awp_cut wdHn (fun _ => none) (fun f M' => M' = M ++ L1 ++ [.box 134 [St r.name, I r.addr, I r.size, Bo r.secret]] ∧ f 0 = .bp k 0 ∧ f 3 = hrow h i ∧ f 5 = .bp q5 0 ∧ f 9 = Rg.sl lay ∧ f 10 = I lay.length ∧ f 11 = I i) (by kernel_rfl) ?_ ?_
  · simp -dsimp [f0, f3, f9, f10, f11, g1, hq5]
  clear f0 f3 f9 f10 f11 f
  rintro f M2 ⟨hM2, f0, f3, f5, f9, f10, f11⟩
  refine awp_cut wdHn (fun _ => none) (fun f M' => M2 = M' ∧ f 0 = .bp k 0 ∧ f 3 = hrow h i ∧ f 5 = .bp q5 0 ∧ f 6 = nilS ∧ f 9 = Rg.sl lay ∧ f 10 = I lay.length ∧ f 11 = I i) (by kernel_rfl) ?_ ?_
  · simp -dsimp [f0, f3, f5, f9, f10, f11]
  clear f0 f3 f5 f9 f10 f11 f
  rintro f _ ⟨rfl, f0, f3, f5, f6, f9, f10, f11⟩
  have gb : M2[q5]? = some (.box 134 [St r.name, I r.addr, I r.size, Bo r.secret]) := by rw [hM2, hq5]; simp
  have mm : MemAt M2 k kb lay b := by rw [hM2]; exact ⟨get_app_old (get_app_old m.me _) _, get_app_old (get_app_old m.bytes _) _, m.len⟩
  obtain ⟨x, hx⟩ : ∃ x, x = wordsR b r := ⟨_, rfl⟩
  obtain ⟨p, hp⟩ : ∃ p : Nat, r.addr = p := ⟨r.addr.toNat, by omega⟩
  obtain ⟨s, hs⟩ : ∃ s : Nat, r.size = s := ⟨r.size.toNat, by omega⟩
  have hxl : x.length = s := by rw [hx, wordsR]; simp; omega
  have hxn : ∀ n, n < s → x[n]? = some (getW b (p + 8 * n)) := fun n hn => by
    rw [hx, wordsR, List.getElem?_map, List.getElem?_range (by omega)]
    have : r.addr.toNat = p := by omega
    rw [this]; rfl
  rw [← hx] at hwi
  rw [hp, hs] at gb
  clear hx
  have hxn := Hid.mk hxn
  have hMl : (M ++ L1).length < M2.length := by rw [← hq5]; exact lt_of_get gb
  refine awp_cut wdHn (fun _ => none) (fun f M' => WdJ M2 x s (f 6) M' ∧ f 0 = .bp k 0 ∧ f 3 = hrow h i ∧ f 9 = Rg.sl lay ∧ f 10 = I lay.length ∧ f 11 = I i) (by kernel_rfl) ?_ ?_
  · simp -dsimp [f0, f3, f5, f6, f9, f10, f11, gb]
    refine loop_rule (hn := wdHn) (od := fun _ => none) (fun (n : Nat) g M' => WdJ M2 x n (g 6) M' ∧ g 0 = .bp k 0 ∧ g 3 = hrow h i ∧ g 5 = .bp q5 0 ∧ g 9 = Rg.sl lay ∧ g 10 = I lay.length ∧ g 11 = I i ∧ g 16 = I s ∧ g 17 = I n ∧ n ≤ s) (fun n => s - n) (by kernel_rfl) 0 (by refine ⟨⟨none, by simpa using Own.nil1 _ _ _, by simp [f6, hrow]⟩, by simp [f0], by simp [f3], by simp [f5], by simp [f9], by simp [f10], by simp [f11], by simp, by simp, by omega⟩) ?_
    clear f0 f3 f5 f6 f9 f10 f11 f
    rintro n f M3 ⟨⟨h2, o2, f6⟩, f0, f3, f5, f9, f10, f11, f16, f17, hn⟩
    simp -dsimp [f0, f3, f5, f6, f9, f10, f11, f16, f17]
    refine condVW_introD (fun hlt2 => ?_) (fun hlt2 => ?_)
    · have hlt2' : n < s := by omega
      have gb3 := o2.old gb
      have mm3 : MemAt M3 k kb lay b := ⟨o2.old mm.me, o2.old mm.bytes, mm.len⟩
      have cg := mget_ok mm3 (p + 8 * n) (by omega)
      have w1 : IntKind.i64.wrap (8 * (n : Int)) = ((8 * n : Nat) : Int) := by rw [wrapI (by omega) (by omega)]; omega
      have w2 : IntKind.i64.wrap ((p : Int) + ((8 * n : Nat) : Int)) = ((p + 8 * n : Nat) : Int) := by rw [wrapI (by omega) (by omega)]; omega
      have w3 : IntKind.i64.wrap ((p : Int) + (8 : Int) * (n : Int)) = ((p + 8 * n : Nat) : Int) := by rw [wrapI (by omega) (by omega)]; omega
      have hq := hxn.out n hlt2'
      obtain ⟨q, hqe⟩ : ∃ q, q = p + 8 * n := ⟨_, rfl⟩
      rw [← hqe] at w2 w3 cg hq
      have htk : x.take (n + 1) = x.take n ++ [getW b q] := by rw [List.take_add_one, hq]; rfl
      have hel : (WoE (x.take n)).length = n := by simp; omega
      simp -dsimp [f0, f3, f5, f6, f9, f10, f11, f16, f17, gb3, w1, w2, w3]
      refine acallsW_det cg ?_
      simp -dsimp [f0, f3, f5, f6, f9, f10, f11, f16, f17, wdHn]
      refine app_own o2 hel.symm rfl rfl (by simp; omega) (by simp; omega) fun h' M' o' _ => ?_
      have e1 : WoE (x.take n) ++ [[U (getW b q)]] = WoE (x.take (n + 1)) := by rw [htk]; simp
      rw [e1] at o'
      have e2 : (WoE (x.take n) ++ [[U (getW b q)]]).length = n + 1 := by simp; omega
      rw [e2]
      simp -dsimp [f0, f3, f5, f6, f9, f10, f11, f16, f17]
      exact ⟨n + 1, by omega, ⟨h', o', rfl⟩, wrapS (by omega), by omega⟩
    · have he : n = s := by omega
      subst he
      simp -dsimp [f0, f3, f5, f6, f9, f10, f11, f16, f17]
      exact ⟨h2, o2, rfl⟩
  clear f0 f3 f5 f6 f9 f10 f11 f
  rintro f M3 ⟨⟨h2, o2, f6⟩, f0, f3, f9, f10, f11⟩
  rw [List.take_of_length_le (by omega)] at o2
  have oB : Own 29 1 M M3 h2 (WoE x) := by
    have : M2 = M ++ (L1 ++ [.box 134 [St r.name, I r.addr, I r.size, Bo r.secret]]) := by rw [hM2, List.append_assoc]
    rw [this] at o2
    exact o2.less
  have hne : ∀ j, h2 = some j → h ≠ some j := fun j hj e => by
    have h1 := o2.new j hj
    have h3 := lt_of_get (o.row j e)
    omega
  have hrow3 : ∀ j, h = some j → M3[j]? = some (.row 26 1 (UsE (W.take i))) := fun j hj => o2.old (by rw [hM2]; exact get_app_old (o.row j hj) _)
  refine awp_giveX 6 hu oB (wo_frzB _) f6 (by simp; omega) fun M4 f' a6 hpre aS aB => ?_
  have e0 : f' 0 = .bp k 0 := by rw [aS 0 (by decide) fun j hj hge => by rw [f0]; exact frz_id hge _ (by simp [AV.under]; omega), f0]
  have e3 : f' 3 = hrow h i := by rw [aS 3 (by decide) fun j hj _ => by rw [f3]; exact frz_hrow_ne (hne j hj), f3]
  have e9 : f' 9 = Rg.sl lay := by rw [aS 9 (by decide) fun j hj hge => by rw [f9]; exact frz_id hge _ (by simp [AV.under]), f9]
  have e10 : f' 10 = I lay.length := by rw [aS 10 (by decide) fun j hj _ => by rw [f10]; rfl, f10]
  have e11 : f' 11 = I i := by rw [aS 11 (by decide) fun j hj _ => by rw [f11]; rfl, f11]
  have o4 : Own 26 1 M M4 h (UsE (W.take i)) := ⟨hpre, fun j hj => aB j _ (fun e => hne j e hj) (hrow3 j hj) (by
    have hz' := us_frzB (W.take i)
    rw [List.all_eq_true] at hz'
    simp only [Blk.under, List.all_eq_true]
    intro e he
    exact underL_frzB _ e (fun c hc => hz' c (List.mem_flatten.2 ⟨e, he, hc⟩))), o.nil, o.new⟩
  refine awp_all wdHn (fun _ => none) (by kernel_rfl) ?_
  have hel : (UsE (W.take i)).length = i := by simp; omega
  have htk : W.take (i + 1) = W.take i ++ [x] := by rw [List.take_add_one, hwi]; rfl
  simp -dsimp [e0, e3, e9, e10, e11, a6, wdHn]
  refine app_own o4 hel.symm rfl rfl (by simp; omega) (by simp; omega) fun h' M' o' _ => ?_
  have e1 : UsE (W.take i) ++ [[Wo.sl x]] = UsE (W.take (i + 1)) := by rw [htk]; simp
  rw [e1] at o'
  have e2 : (UsE (W.take i) ++ [[Wo.sl x]]).length = i + 1 := by simp; omega
  rw [e2]
  simp -dsimp [e0, e3, e9, e10, e11]
  exact ⟨h', o', rfl⟩
end Go.Proofs
