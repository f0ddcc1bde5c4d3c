/- The document's memory: made, and words laid in. -/
import Derived.Test.YtganjkhdlehhdaaGreatFwRowtoME6
import Derived.Test.YtganjkhdlehhdaaGreatFwBagtoAM2
set_option linter.unusedVariables false
set_option linter.unusedSimpArgs false
set_option maxHeartbeats 4000000
set_option maxRecDepth 100000
namespace Go.Proofs
open Go.Mu
abbrev rowY (b : List Int) : Blk := .row 5 1 (b.map fun x => [Y x])
abbrev rfB (L : AV) (kb : Nat) : Blk := .box 98 [L, .hs kb 0 65536 65536]
structure RefAt (M : List Blk) (k kb : Nat) (L : AV) (b : List Int) : Prop where
  me : M[k]? = some (rfB L kb)
  bytes : M[kb]? = some (rowY b)
  len : b.length = 65536
def zeroR : List Int := List.replicate 65536 0
theorem zeroR_len : zeroR.length = 65536 := List.length_replicate
theorem rnew_ok (l : List Rg) (hl : l.length ≤ 16) (H : List Blk) : ACalls Tryz.prog 35 [Rg.sl l] H (fun e H' => e = .ret (.bp (H.length + 1) 0) ∧ H' = H ++ [rowY zeroR, rfB (Rg.sl l) H.length]) := by
  refine acalls_of_vc (hn := fun _ => false) (od := fun i => if i = 1 then some [(0, []), (1, []), (2, [1]), (3, []), (4, []), (5, [])] else none) Tryz.func35 rfl (by kernel_rfl) ?_
  have hz : rowY zeroR = .row 5 1 (List.replicate 65536 [Y 0]) := by rw [rowY, zeroR, List.map_replicate]
  rw [hz]
  clear hz
  simp -dsimp [-List.reduceReplicate]
  refine andVW_intro (by omega) ?_
  simp -dsimp [-List.reduceReplicate]
  refine andVW_intro (by omega) ?_
  simp -dsimp [-List.reduceReplicate]
theorem rput_ok {M : List Blk} {k kb : Nat} {L : AV} {b : List Int} (m : RefAt M k kb L b) (at_ : Nat) (ha : at_ ≤ 65528) (x : Int) : ACalls Tryz.prog 67 [.bp k 0, I at_, U x] M (fun e M' => e = .ret (.tup []) ∧ M' = M.set kb (rowY (putW b at_ x))) := by
  refine acalls_of_vc (hn := fun _ => false) (od := fun _ => none) Tryz.func67 rfl (by kernel_rfl) ?_
  obtain ⟨m1, m2, m3⟩ := m
  have hne : k ≠ kb := fun e => by subst e; rw [m1] at m2; simp at m2
  have hkb := lt_of_get m2
  obtain ⟨G, hG⟩ : ∃ G : List Int → List Blk, ∀ c, G c = M.set kb (rowY c) := ⟨_, fun _ => rfl⟩
  have g1 : ∀ c, (G c)[k]? = some (rfB L kb) := fun c => by rw [hG, List.getElem?_set_ne (fun e => hne e.symm)]; exact m1
  have g2 : ∀ c, (G c)[kb]? = some (rowY c) := fun c => by rw [hG, List.getElem?_set_self hkb]
  have g3 : ∀ c d, (G c).set kb (rowY d) = G d := fun c d => by rw [hG, hG, List.set_set]
  have g0 : M = G b := by rw [hG]; exact (setSelf m2).symm
  have gE : M.set kb (rowY (putW b at_ x)) = G (putTo b at_ x 8) := (hG _).symm
  rw [gE, g0]
  clear gE g0
  have m3 := Hid.mk m3
  simp -dsimp
  refine loop_rule (hn := fun _ => false) (od := fun _ => none) (fun (i : Nat) f M' => G (putTo b at_ x i) = M' ∧ f 0 = .bp k 0 ∧ f 1 = I at_ ∧ f 2 = U x ∧ f 6 = I i ∧ i ≤ 8) (fun i => 8 - i) (by kernel_rfl) 0 (by refine ⟨rfl, by simp, by simp, by simp, by simp, by omega⟩) ?_
  rintro i f _ ⟨rfl, f0, f1, f2, f6, hi⟩
  simp -dsimp [f0, f1, f2, f6]
  by_cases h8 : i < 8
  · have d8 : decide ((i : Int) < 8) = true := decide_eq_true (by omega)
    obtain ⟨q, hq⟩ : ∃ q, q = at_ + i := ⟨_, rfl⟩
    have w1 : IntKind.i64.wrap ((at_ : Int) + i) = (q : Int) := by rw [wrapI (by omega) (by omega)]; omega
    obtain ⟨s, hs⟩ : ∃ s, s = 8 * i := ⟨_, rfl⟩
    have w2 : IntKind.i64.wrap (8 * (i : Int)) = (s : Int) := by rw [wrapI (by omega) (by omega)]; omega
    have w3 : IntKind.u64.wrap (s : Int) = (s : Int) := by rw [show IntKind.u64.wrap (s : Int) = (s : Int) % 18446744073709551616 from rfl]; omega
    have ds : ((s : Int) < 0) = False := eq_false (by omega)
    have ms : min s IntKind.u64.bits = s := by show min s 64 = s; omega
    have hn : putTo b at_ x (i + 1) = (putTo b at_ x i).set (at_ + i) (IntKind.u8.wrap (x.fdiv (2 ^ (8 * i)))) := rfl
    have hl : (putTo b at_ x i).length = 65536 := by rw [putTo_len]; exact m3.out
    obtain ⟨c, hc⟩ : ∃ c, c = putTo b at_ x i := ⟨_, rfl⟩
    rw [← hc] at hn hl ⊢
    rw [← hq, ← hs] at hn
    have hlt : q < 65536 := by omega
    have c1 := g1 c
    have c2 : (G c)[kb]? = some (.row 5 1 (c.map fun x => [Y x])) := g2 c
    have hcl : (c.map fun x => [Y x]).length = 65536 := by rw [List.length_map]; exact hl
    have hcq : (c.map fun x => [Y x])[q]? = some [Y (c.getD q 0)] := by rw [List.getElem?_map, getD_at (by omega)]; rfl
    have hst : ∀ v : Int, astore (G c) (.rp kb 65536 q 0) [Y v] = some (G (c.set q v)) := fun v => by
      rw [astore_one c2 hcl hcq, ← g3 c (c.set q v)]
      congr 2
      rw [rowY, List.map_set]
    have hn := Hid.mk hn
    have hl := Hid.mk hl
    have hs := Hid.mk hs
    clear hc hq
    simp -dsimp [f0, f1, f2, f6, d8, c1, c2, w1, w2, w3, ds, ms, hcl]
    refine andVW_intro (by omega) ?_
    simp -dsimp [f0, f1, f2, f6, d8, c1, c2, w1, w2, w3, ds, ms, hst, hcl]
    exact ⟨i + 1, by omega, by rw [hn.out], wrapS (by omega), by omega⟩
  · have d8 : decide ((i : Int) < 8) = false := decide_eq_false (by omega)
    have h8' : i = 8 := by omega
    subst h8'
    simp -dsimp [d8]
theorem rfill_ok (l : List Rg) (w : List (List Int)) (hm : mayL l = true) (hf : fitsL l w = true) {M : List Blk} {k kb : Nat} {b : List Int} (m : RefAt M k kb (Rg.sl l) b) : ACalls Tryz.prog 36 [.bp k 0, Us.sl w] M (fun e M' => e = .ret (.tup []) ∧ M' = M.set kb (rowY (fillTo b l w l.length))) := by
  refine acalls_of_vc (hn := fun d => d == 40) (od := fun _ => none) Tryz.func36 rfl (by kernel_rfl) ?_
  obtain ⟨h16, hok⟩ := mayL_ok hm
  obtain ⟨hlw, hsz⟩ := fits_at hf
  obtain ⟨m1, m2, m3⟩ := m
  have hne : k ≠ kb := fun e => by subst e; rw [m1] at m2; simp at m2
  have hkb := lt_of_get m2
  obtain ⟨G, hG⟩ : ∃ G : List Int → List Blk, ∀ c, G c = M.set kb (rowY c) := ⟨_, fun _ => rfl⟩
  have g1 : ∀ c, (G c)[k]? = some (rfB (Rg.sl l) kb) := fun c => by rw [hG, List.getElem?_set_ne (fun e => hne e.symm)]; exact m1
  have g2 : ∀ c, (G c)[kb]? = some (rowY c) := fun c => by rw [hG, List.getElem?_set_self hkb]
  have g3 : ∀ c d, (G c).set kb (rowY d) = G d := fun c d => by rw [hG, hG, List.set_set]
  have g0 : M = G b := by rw [hG]; exact (setSelf m2).symm
  have cp := fun (c : List Int) (hc : c.length = 65536) (a : Nat) (ha : a ≤ 65528) (x : Int) => rput_ok (M := G c) (L := Rg.sl l) ⟨g1 c, g2 c, hc⟩ a ha x
  simp only [g3] at cp
  have hlen := fillTo_len b l w
  rw [m3] at hlen
  have hfin : M.set kb (rowY (fillTo b l w l.length)) = G (fillTo b l w l.length) := (hG _).symm
  have h0 : b = fillTo b l w 0 := rfl
  have hstep : ∀ (i : Nat) r x, l[i]? = some r → w[i]? = some x → fillTo b l w (i + 1) = fillRow (fillTo b l w i) r.addr.toNat x x.length := fun i r x h1 h2 => by rw [fillTo, h1, h2]
  rw [hfin, show M = G (fillTo b l w 0) from g0]
  obtain ⟨FT, hFT⟩ : ∃ FT, FT = fillTo b l w := ⟨_, rfl⟩
  rw [← hFT] at hlen hstep ⊢
  clear hFT hfin h0 hm hf g0 m1 m2 m3
  have hok := Hid.mk hok
  have hsz := Hid.mk hsz
  have hlen := Hid.mk hlen
  have hstep := Hid.mk hstep
  have hlw := Hid.mk hlw
  simp -dsimp
  refine loop_rule (hn := fun d => d == 40) (od := fun _ => none) (fun (i : Nat) f M => G (FT i) = M ∧ f 0 = .bp k 0 ∧ f 1 = Us.sl w ∧ f 4 = I i ∧ i ≤ w.length) (fun i => w.length - i) (by kernel_rfl) 0 (by refine ⟨rfl, by simp, by simp, by simp, by omega⟩) ?_
  rintro i f _ ⟨rfl, f0, f1, f4, hi⟩
  simp -dsimp [f0, f1, f4]
  refine condVW_introD (fun hlt => ?_) (fun hlt => ?_)
  · have hlt' : i < w.length := by omega
    have hy := List.getElem?_eq_getElem hlt'
    have hx := List.getElem?_eq_getElem (show i < l.length by rw [hlw.out]; exact hlt')
    obtain ⟨x, hxe⟩ : ∃ x, x = w[i] := ⟨_, rfl⟩
    obtain ⟨a, hae⟩ : ∃ a, a = l[i]'(by rw [hlw.out]; exact hlt') := ⟨_, rfl⟩
    rw [← hae] at hx
    rw [← hxe] at hy
    clear hae hxe
    have q1 : (l.map Rg.cells)[i]? = some [St a.name, I a.addr, I a.size, Bo a.secret] := by rw [List.getElem?_map, hx]; rfl
    have q2 : (w.map fun x => [Wo.sl x])[i]? = some [Wo.sl x] := by rw [List.getElem?_map, hy]; rfl
    have hao := hok.out a (List.mem_of_getElem? hx)
    have hs := hsz.out i a x hx hy
    have hst := hstep.out i a x hx hy
    have b2 := hao.s2
    have b3 := hao.a1
    have b4 := hao.a3
    obtain ⟨p, hp⟩ : ∃ p : Nat, a.addr = p := ⟨a.addr.toNat, by omega⟩
    have hpt : a.addr.toNat = p := by omega
    rw [hpt] at hst
    rw [hp] at q1
    have hFl := hlen.out i
    obtain ⟨b, hb⟩ : ∃ b, b = FT i := ⟨_, rfl⟩
    rw [← hb] at hst hFl ⊢
    have hrl : ∀ n, (fillRow b p x n).length = 65536 := fun n => by rw [fillRow_len, hFl]
    have hr0 : b = fillRow b p x 0 := rfl
    have hrs : ∀ n, fillRow b p x (n + 1) = putW (fillRow b p x n) (p + 8 * n) (x.getD n 0) := fun n => rfl
    obtain ⟨FR, hFR⟩ : ∃ FR, FR = fillRow b p x := ⟨_, rfl⟩
    rw [← hFR] at hst hrl hr0 hrs
    rw [hr0]
    clear hFR hb hr0
    have hst := Hid.mk hst
    have hrl := Hid.mk hrl
    have hrs := Hid.mk hrs
    have hpb : p + 8 * x.length ≤ 49152 := by omega
    have hs := Hid.mk hs
    simp -dsimp [f0, f1, f4]
    refine loop_rule (hn := fun d => d == 40) (od := fun _ => none) (fun (n : Nat) g M => G (FR n) = M ∧ g 0 = .bp k 0 ∧ g 1 = Us.sl w ∧ g 4 = I i ∧ g 5 = I n ∧ n ≤ x.length) (fun n => x.length - n) (by kernel_rfl) 0 (by refine ⟨rfl, by simp [f0], by simp [f1], by simp [f4], by simp, by omega⟩) ?_
    clear f0 f1 f4 f
    rintro n f _ ⟨rfl, f0, f1, f4, f5, hk⟩
    simp -dsimp [f0, f1, f4, f5, q2]
    refine condVW_introD (fun hlt2 => ?_) (fun hlt2 => ?_)
    · have hlt2' : n < x.length := by omega
      have hv := getD_at (b := x) (i := n) hlt2'
      obtain ⟨v, hve⟩ : ∃ v, v = x.getD n 0 := ⟨_, rfl⟩
      have hn := hrs.out n
      rw [← hve] at hv hn
      clear hve
      obtain ⟨q, hq⟩ : ∃ q, q = p + 8 * n := ⟨_, rfl⟩
      rw [← hq] at hn
      have w1 : IntKind.i64.wrap (8 * (n : Int)) = ((8 * n : Nat) : Int) := by rw [wrapI (by omega) (by omega)]; omega
      have w2 : IntKind.i64.wrap ((p : Int) + ((8 * n : Nat) : Int)) = (q : Int) := by rw [wrapI (by omega) (by omega)]; omega
      have w3 : IntKind.i64.wrap ((p : Int) + (8 : Int) * (n : Int)) = (q : Int) := by rw [wrapI (by omega) (by omega)]; omega
      have cq := cp (FR n) (hrl.out n) q (by omega) v
      have hn := Hid.mk hn
      have c1 := g1 (FR n)
      simp -dsimp [f0, f1, f4, f5, q1, q2, c1, hv, w1, w2, w3]
      refine acallsW_of cq ?_
      rintro _ _ ⟨rfl, rfl⟩
      simp -dsimp [f0, f1, f4, f5]
      exact ⟨n + 1, by omega, by rw [hn.out], wrapS (by omega), by omega⟩
    · have he : n = x.length := by omega
      subst he
      simp -dsimp [f0, f1, f4, f5]
      exact ⟨i + 1, by omega, by rw [hst.out], wrapS (by omega), by omega⟩
  · have he : i = l.length := by rw [hlw.out]; omega
    subst he
    simp -dsimp
end Go.Proofs
namespace Go.Proofs
open Go.Mu
def BytesOk (b : List Int) : Prop := ∀ x ∈ b, 0 ≤ x ∧ x ≤ 255
def bAt (b : List Int) (i : Nat) : Int := b.getD i 0
theorem bAt_rng {b : List Int} (h : BytesOk b) (i : Nat) : 0 ≤ bAt b i ∧ bAt b i ≤ 255 := by
  unfold bAt
  rw [List.getD_eq_getElem?_getD]
  cases hg : b[i]? with
  | none => exact ⟨by decide, by decide⟩
  | some x => exact h x (List.mem_of_getElem? hg)
def rgTo (b : List Int) (at_ : Nat) : Nat → Int
  | 0 => 0
  | j + 1 => rgTo b at_ j * 256 + bAt b (at_ + (7 - j))
theorem rgTo_rng {b : List Int} (h : BytesOk b) (at_ : Nat) : ∀ j, 0 ≤ rgTo b at_ j ∧ rgTo b at_ j < 256 ^ j
  | 0 => ⟨Int.le_refl _, show (0 : Int) < 1 by decide⟩
  | j + 1 => by
    have h1 := rgTo_rng h at_ j
    have h2 := bAt_rng h (at_ + (7 - j))
    show 0 ≤ rgTo b at_ j * 256 + bAt b (at_ + (7 - j)) ∧ rgTo b at_ j * 256 + bAt b (at_ + (7 - j)) < 256 ^ (j + 1)
    rw [Int.pow_succ]
    omega
theorem rget_ok {M : List Blk} {k kb : Nat} {L : AV} {b : List Int} (m : RefAt M k kb L b) (hb : BytesOk b) (at_ : Nat) (ha : at_ ≤ 65528) : ACalls Tryz.prog 84 [.bp k 0, I at_] M (fun e M' => e = .ret (U (rgTo b at_ 8)) ∧ M' = M) := by
  refine acalls_of_vc (hn := fun _ => false) (od := fun _ => none) Tryz.func84 rfl (by kernel_rfl) ?_
  obtain ⟨m1, m2, m3⟩ := m
  simp -dsimp
  refine loop_rule (hn := fun _ => false) (od := fun _ => none) (fun (j : Nat) f M' => M' = M ∧ f 0 = .bp k 0 ∧ f 1 = I at_ ∧ f 5 = U (rgTo b at_ j) ∧ f 6 = I (7 - (j : Int)) ∧ j ≤ 8) (fun j => 8 - j) (by kernel_rfl) 0 (by refine ⟨rfl, by simp, by simp, by simp [rgTo], by simp, by omega⟩) ?_
  rintro j f M' ⟨rfl, f0, f1, f5, f6, hj⟩
  simp -dsimp [f0, f1, f5, f6]
  by_cases h8 : j < 8
  · have d8 : decide ((j : Int) ≤ 7) = true := decide_eq_true (by omega)
    obtain ⟨q, hq⟩ : ∃ q, q = at_ + (7 - j) := ⟨_, rfl⟩
    have w1 : IntKind.i64.wrap ((at_ : Int) + (7 - (j : Int))) = (q : Int) := by rw [wrapI (by omega) (by omega)]; omega
    have w2 : IntKind.i64.wrap (7 - (j : Int) - 1) = 7 - ((j + 1 : Nat) : Int) := by rw [wrapI (by omega) (by omega)]; omega
    have hql : q < b.length := by rw [m3]; omega
    have hg : (b.map fun x => [Y x])[q]? = some [Y (bAt b q)] := by
      rw [List.getElem?_map, List.getElem?_eq_getElem hql]
      unfold bAt
      rw [List.getD_eq_getElem?_getD, List.getElem?_eq_getElem hql]
      rfl
    have r1 := rgTo_rng hb at_ j
    have r2 := bAt_rng hb q
    have r3 := rgTo_rng hb at_ (j + 1)
    have q0 : 0 ≤ q ∧ q < 65536 := by omega
    have wb : IntKind.u64.wrap (bAt b q) = bAt b q := by rw [IntKind.wrap_u64]; omega
    have p8 : (256 : Int) ^ (j + 1) ≤ 18446744073709551616 := by
      have : (256 : Nat) ^ (j + 1) ≤ 256 ^ 8 := Nat.pow_le_pow_right (by decide) (by omega)
      have : ((256 ^ (j + 1) : Nat) : Int) ≤ ((256 ^ 8 : Nat) : Int) := by exact_mod_cast this
      simpa using this
    have e : rgTo b at_ (j + 1) = rgTo b at_ j * 256 + bAt b q := by rw [hq]; rfl
    have wm : IntKind.u64.wrap (rgTo b at_ j * 256) = rgTo b at_ j * 256 := by rw [IntKind.wrap_u64]; omega
    have ws : IntKind.u64.wrap (rgTo b at_ j * 256 + bAt b q) = rgTo b at_ (j + 1) := by rw [IntKind.wrap_u64, e]; omega
    simp -dsimp [f0, f1, f5, f6, d8, m1, m2, w1, w2, hg, wb, wm, ws, q0]
    refine andVW_intro ⟨m3, by omega⟩ ?_
    simp -dsimp [f0, f1, f5, f6, m2, hg, wb, wm, ws, w2, m3]
    exact ⟨j + 1, by omega, rfl, rfl, by omega⟩
  · have d8 : decide ((j : Int) ≤ 7) = false := decide_eq_false (by omega)
    have : j = 8 := by omega
    simp -dsimp [f5, d8]
    rw [this]
end Go.Proofs
