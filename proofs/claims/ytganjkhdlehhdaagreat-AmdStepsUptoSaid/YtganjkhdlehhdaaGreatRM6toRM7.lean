/- Words of a memory; two lists of lists. -/
import Derived.Test.YtganjkhdlehhdaaGreatFwRowtoME6
set_option linter.unusedVariables false
set_option linter.unusedSimpArgs false
set_option maxHeartbeats 4000000
set_option maxRecDepth 100000
namespace Go.Proofs
open Go.Mu
theorem mlayout_ok {M : List Blk} {k kb : Nat} {lay : List Rg} {b : List Int} (m : MemAt M k kb lay b) (hl : lay.length ≤ 2^36) : ACalls Tryz.prog 69 [.bp k 0] M (fun e M' => e = .ret (Rg.sl lay) ∧ M' = M) := by
  refine acalls_of_vc (hn := fun _ => false) (od := fun _ => none) Tryz.func69 rfl (by kernel_rfl) ?_
  have t1 := mthere_ok m
  have cl := rgclone_ok lay hl M
  have g1 := m.me
  simp -dsimp [g1]
  refine acallsW_det t1 ?_
  simp -dsimp [g1]
  refine acallsW_det cl ?_
  simp -dsimp [g1]
theorem swords_ok (w : List (List Int)) (hw : w.length ≤ 2^40) (hx : ∀ x ∈ w, x.length ≤ 2^40) (H : List Blk) : ACalls Tryz.prog 42 [Us.sl w, Us.sl w] H (fun e H' => e = .ret (Bo true) ∧ H' = H) := by
  refine acalls_tidy (acalls_of_vc (hn := fun _ => false) (od := fun _ => none) Tryz.func42 rfl (by kernel_rfl) ?_)
  have hx := Hid.mk hx
  simp -dsimp
  refine loop_rule (hn := fun _ => false) (od := fun _ => none) (fun (i : Nat) f H' => H = H' ∧ f 0 = Us.sl w ∧ f 1 = Us.sl w ∧ f 5 = I i ∧ i ≤ w.length) (fun i => w.length - i) (by kernel_rfl) 0 (by simp) ?_
  rintro i f _ ⟨rfl, h0, h1', h5, hi⟩
  simp -dsimp [h0, h1', h5]
  refine condVW_introD (fun hlt => ?_) (fun hlt => ?_)
  · have e1 := List.getElem?_eq_getElem (show i < w.length by omega)
    obtain ⟨x, hxe⟩ : ∃ x, x = w[i]'(by omega) := ⟨_, rfl⟩
    rw [← hxe] at e1
    have hxl := hx.out x (List.mem_of_getElem? e1)
    clear hxe
    have q2 : (w.map fun x => [Wo.sl x])[i]? = some [Wo.sl x] := by rw [List.getElem?_map, e1]; rfl
    simp -dsimp [h0, h1', h5, q2]
    refine loop_rule (hn := fun _ => false) (od := fun _ => none) (fun (n : Nat) g H' => H = H' ∧ g 0 = Us.sl w ∧ g 1 = Us.sl w ∧ g 5 = I i ∧ g 6 = I n ∧ n ≤ x.length) (fun n => x.length - n) (by kernel_rfl) 0 (by refine ⟨rfl, by simp [h0], by simp [h1'], by simp [h5], by simp, by omega⟩) ?_
    clear h0 h1' h5 f
    rintro n f _ ⟨rfl, h0, h1', h5, h6, hk⟩
    simp -dsimp [h0, h1', h5, h6, q2]
    refine condVW_introD (fun hlt2 => ?_) (fun hlt2 => ?_)
    · have hv := getD_at (b := x) (i := n) (by omega)
      obtain ⟨v, hve⟩ : ∃ v, v = x.getD n 0 := ⟨_, rfl⟩
      rw [← hve] at hv
      clear hve
      simp -dsimp [h0, h1', h5, h6, q2, hv]
      exact ⟨n + 1, by omega, wrapS (by omega), by omega⟩
    · simp -dsimp [h0, h1', h5, h6]
      exact ⟨i + 1, by omega, wrapS (by omega), by omega⟩
  · simp -dsimp
    exact tidy_now rfl ⟨rfl, rfl⟩
end Go.Proofs
namespace Go.Proofs
open Go.Mu
def wordsR (b : List Int) (r : Rg) : List Int := (List.range r.size.toNat).map fun k => getW b (r.addr.toNat + 8 * k)
def wordsL (lay : List Rg) (b : List Int) : List (List Int) := lay.map (wordsR b)
abbrev UsE (w : List (List Int)) : List (List AV) := w.map fun x => [Wo.sl x]
abbrev WoE (w : List Int) : List (List AV) := w.map fun x => [U x]
def WdI (M : List Blk) (w : List (List Int)) (i : Nat) (v : AV) (M' : List Blk) : Prop := ∃ h, Own 130 1 M M' h (UsE (w.take i)) ∧ v = hrow h i
def WdJ (N : List Blk) (x : List Int) (n : Nat) (v : AV) (M' : List Blk) : Prop := ∃ h, Own 23 1 N M' h (WoE (x.take n)) ∧ v = hrow h n
theorem wo_frzB (x : List Int) : (WoE x).flatten.all AV.frzB = true := by
  rw [List.all_eq_true]
  intro c hc
  rw [List.mem_flatten] at hc
  obtain ⟨e, he, hc⟩ := hc
  obtain ⟨y, _, rfl⟩ := List.mem_map.1 he
  simp at hc
  subst hc
  rfl
theorem us_frzB (w : List (List Int)) : (UsE w).flatten.all AV.frzB = true := by
  rw [List.all_eq_true]
  intro c hc
  rw [List.mem_flatten] at hc
  obtain ⟨e, he, hc⟩ := hc
  obtain ⟨y, _, rfl⟩ := List.mem_map.1 he
  simp at hc
  subst hc
  exact (show (AV.vs 1 (WoE y)).frzB = true from by simp [AV.frzB])
def wdHn (d : Nat) : Bool := d == 29 || d == 34
theorem mwords_ok {M : List Blk} {k kb : Nat} {lay : List Rg} {b : List Int} (m : MemAt M k kb lay b) (hl : lay.length ≤ 16) (ho : ∀ r ∈ lay, r.Ok) : ACalls Tryz.prog 43 [.bp k 0] M (fun e M' => e = .ret (Us.sl (wordsL lay b)) ∧ M' = M) := by
  refine acalls_under fun hu _ => acalls_weakE (acalls_tidy (acalls_of_awp Tryz.func43 rfl (by kernel_rfl) ?_))
  have cl := mlayout_ok m (by omega)
  have hk := lt_of_get m.me
  have hwl : (wordsL lay b).length = lay.length := by simp [wordsL]
  obtain ⟨W, hW⟩ : ∃ W, W = wordsL lay b := ⟨_, rfl⟩
  have hWi : ∀ i r, lay[i]? = some r → W[i]? = some (wordsR b r) := fun i r h => by rw [hW, wordsL, List.getElem?_map, h]; rfl
  rw [← hW] at hwl ⊢
  clear hW
  have hWi := Hid.mk hWi
  have ho := Hid.mk ho
  refine awp_cut wdHn (fun _ => none) (fun f M' => M = M' ∧ f 0 = .bp k 0) (by kernel_rfl) ?_ ?_
  · simp -dsimp
  rintro f _ ⟨rfl, f0⟩
  refine awp_cut wdHn (fun _ => none) (fun f M' => M = M' ∧ f 0 = .bp k 0 ∧ f 3 = nilS) (by kernel_rfl) ?_ ?_
  · simp -dsimp [f0]
  clear f0 f
  rintro f _ ⟨rfl, f0, f3⟩
  refine awp_cutA (fun f M' => WdI M W lay.length (f 3) M') ?_ ?_
  rotate_left
  · clear f0 f3 f
    rintro f M' ⟨h, o, f3⟩
    refine awp_all wdHn (fun _ => none) (by kernel_rfl) ?_
    simp -dsimp [f3]
    refine tidy_rowA hu o (us_frzB _) (by simp; omega) ?_
    rw [List.take_of_length_le (by omega)]
    exact ⟨rfl, rfl⟩
  refine awp_cut wdHn (fun _ => none) (fun f M' => M = M' ∧ f 0 = .bp k 0 ∧ f 3 = nilS ∧ f 9 = Rg.sl lay ∧ f 10 = I lay.length ∧ f 11 = I 0) (by kernel_rfl) ?_ ?_
  · simp -dsimp [f0, f3]
    refine acallsW_det cl ?_
    simp -dsimp [f0, f3]
  clear f0 f3 f
  rintro f _ ⟨rfl, f0, f3, f9, f10, f11⟩
  refine awp_block ?_
  refine awp_loopI (fun (i : Nat) f M' => WdI M W i (f 3) M' ∧ f 0 = .bp k 0 ∧ f 9 = Rg.sl lay ∧ f 10 = I lay.length ∧ f 11 = I i ∧ i ≤ lay.length) (fun i => lay.length - i) 0 ⟨⟨none, by simpa using Own.nil1 _ _ _, f3⟩, f0, f9, f10, f11, Nat.zero_le _⟩ ?_
  clear f0 f3 f9 f10 f11 f
  rintro i f M1 ⟨ow, f0, f9, f10, f11, hi⟩
  refine awp_cut wdHn (fun _ => none) (fun f M' => M1 = M' ∧ WdI M W i (f 3) M' ∧ f 0 = .bp k 0 ∧ f 9 = Rg.sl lay ∧ f 10 = I lay.length ∧ f 11 = I i ∧ f 12 = Bo (decide (i < lay.length))) (by kernel_rfl) ?_ ?_
  · simp -dsimp [f0, f9, f10, f11, ow]
  clear f0 f9 f10 f11 ow f
  rintro f _ ⟨rfl, ow, f0, f9, f10, f11, f12⟩
  refine awp_cut wdHn (fun _ => none) (fun f M' => M1 = M' ∧ WdI M W i (f 3) M' ∧ f 0 = .bp k 0 ∧ f 9 = Rg.sl lay ∧ f 10 = I lay.length ∧ f 11 = I i ∧ i < lay.length) (by kernel_rfl) ?_ ?_
  · simp -dsimp [f12]
    refine condVW_introD (fun hlt => ?_) (fun hlt => ?_)
    · simp -dsimp [f0, f9, f10, f11, ow, hlt]
    · have : i = lay.length := by omega
      subst this
      simp -dsimp [ow]
  clear f0 f9 f10 f11 f12 ow f
  rintro f _ ⟨rfl, ow, f0, f9, f10, f11, hlt⟩
  refine awp_cutA (fun f M' => WdI M W (i + 1) (f 3) M' ∧ f 0 = .bp k 0 ∧ f 9 = Rg.sl lay ∧ f 10 = I lay.length ∧ f 11 = I i) ?_ ?_
  rotate_left
  · clear f0 f9 f10 f11 ow f
    rintro f M2 ⟨ow, f0, f9, f10, f11⟩
    refine awp_all wdHn (fun _ => none) (by kernel_rfl) ?_
    simp -dsimp [f0, f9, f10, f11, ow]
    exact ⟨i + 1, by omega, ow, wrapS (by omega), by omega⟩
  obtain ⟨h, o, f3⟩ := ow
  obtain ⟨L1, rfl⟩ := o.pre
  have hr := List.getElem?_eq_getElem hlt
  obtain ⟨r, hre⟩ : ∃ r, r = lay[i] := ⟨_, rfl⟩
  rw [← hre] at hr
  clear hre
  have hro := ho.out r (List.mem_of_getElem? hr)
  have hwi := hWi.out i r hr
  have g1 : (lay.map Rg.cells)[i]? = some [St r.name, I r.addr, I r.size, Bo r.secret] := by rw [List.getElem?_map, hr]; rfl
  have b1 := hro.s1
  have b2 := hro.s2
  have b3 := hro.a1
  have b4 := hro.a3
  obtain ⟨q5, hq5⟩ : ∃ q, q = (M ++ L1).length := ⟨_, rfl⟩
  refine awp_block ?_
  refine awp_cut wdHn (fun _ => none) (fun f M' => M' = M ++ L1 ++ [.box 125 [St r.name, I r.addr, I r.size, Bo r.secret]] ∧ f 0 = .bp k 0 ∧ f 3 = hrow h i ∧ f 5 = .bp q5 0 ∧ f 9 = Rg.sl lay ∧ f 10 = I lay.length ∧ f 11 = I i) (by kernel_rfl) ?_ ?_
  · simp -dsimp [f0, f3, f9, f10, f11, g1, hq5]
  clear f0 f3 f9 f10 f11 f
  rintro f M2 ⟨hM2, f0, f3, f5, f9, f10, f11⟩
  refine awp_cut wdHn (fun _ => none) (fun f M' => M2 = M' ∧ f 0 = .bp k 0 ∧ f 3 = hrow h i ∧ f 5 = .bp q5 0 ∧ f 6 = nilS ∧ f 9 = Rg.sl lay ∧ f 10 = I lay.length ∧ f 11 = I i) (by kernel_rfl) ?_ ?_
  · simp -dsimp [f0, f3, f5, f9, f10, f11]
  clear f0 f3 f5 f9 f10 f11 f
  rintro f _ ⟨rfl, f0, f3, f5, f6, f9, f10, f11⟩
  have gb : M2[q5]? = some (.box 125 [St r.name, I r.addr, I r.size, Bo r.secret]) := by rw [hM2, hq5]; simp
  have mm : MemAt M2 k kb lay b := by rw [hM2]; exact ⟨get_app_old (get_app_old m.me _) _, get_app_old (get_app_old m.bytes _) _, m.len⟩
  obtain ⟨x, hx⟩ : ∃ x, x = wordsR b r := ⟨_, rfl⟩
  obtain ⟨p, hp⟩ : ∃ p : Nat, r.addr = p := ⟨r.addr.toNat, by omega⟩
  obtain ⟨s, hs⟩ : ∃ s : Nat, r.size = s := ⟨r.size.toNat, by omega⟩
  have hxl : x.length = s := by rw [hx, wordsR]; simp; omega
  have hxn : ∀ n, n < s → x[n]? = some (getW b (p + 8 * n)) := fun n hn => by
    rw [hx, wordsR, List.getElem?_map, List.getElem?_range (by omega)]
    have : r.addr.toNat = p := by omega
    rw [this]; rfl
  rw [← hx] at hwi
  rw [hp, hs] at gb
  clear hx
  have hxn := Hid.mk hxn
  have hMl : (M ++ L1).length < M2.length := by rw [← hq5]; exact lt_of_get gb
  refine awp_cut wdHn (fun _ => none) (fun f M' => WdJ M2 x s (f 6) M' ∧ f 0 = .bp k 0 ∧ f 3 = hrow h i ∧ f 9 = Rg.sl lay ∧ f 10 = I lay.length ∧ f 11 = I i) (by kernel_rfl) ?_ ?_
  · simp -dsimp [f0, f3, f5, f6, f9, f10, f11, gb]
    refine loop_rule (hn := wdHn) (od := fun _ => none) (fun (n : Nat) g M' => WdJ M2 x n (g 6) M' ∧ g 0 = .bp k 0 ∧ g 3 = hrow h i ∧ g 5 = .bp q5 0 ∧ g 9 = Rg.sl lay ∧ g 10 = I lay.length ∧ g 11 = I i ∧ g 16 = I s ∧ g 17 = I n ∧ n ≤ s) (fun n => s - n) (by kernel_rfl) 0 (by refine ⟨⟨none, by simpa using Own.nil1 _ _ _, by simp [f6, hrow]⟩, by simp [f0], by simp [f3], by simp [f5], by simp [f9], by simp [f10], by simp [f11], by simp, by simp, by omega⟩) ?_
    clear f0 f3 f5 f6 f9 f10 f11 f
    rintro n f M3 ⟨⟨h2, o2, f6⟩, f0, f3, f5, f9, f10, f11, f16, f17, hn⟩
    simp -dsimp [f0, f3, f5, f6, f9, f10, f11, f16, f17]
    refine condVW_introD (fun hlt2 => ?_) (fun hlt2 => ?_)
    · have hlt2' : n < s := by omega
      have gb3 := o2.old gb
      have mm3 : MemAt M3 k kb lay b := ⟨o2.old mm.me, o2.old mm.bytes, mm.len⟩
      have cg := mget_ok mm3 (p + 8 * n) (by omega)
      have w1 : IntKind.i64.wrap (8 * (n : Int)) = ((8 * n : Nat) : Int) := by rw [wrapI (by omega) (by omega)]; omega
      have w2 : IntKind.i64.wrap ((p : Int) + ((8 * n : Nat) : Int)) = ((p + 8 * n : Nat) : Int) := by rw [wrapI (by omega) (by omega)]; omega
      have w3 : IntKind.i64.wrap ((p : Int) + (8 : Int) * (n : Int)) = ((p + 8 * n : Nat) : Int) := by rw [wrapI (by omega) (by omega)]; omega
      have hq := hxn.out n hlt2'
      obtain ⟨q, hqe⟩ : ∃ q, q = p + 8 * n := ⟨_, rfl⟩
      rw [← hqe] at w2 w3 cg hq
      have htk : x.take (n + 1) = x.take n ++ [getW b q] := by rw [List.take_add_one, hq]; rfl
      have hel : (WoE (x.take n)).length = n := by simp; omega
      simp -dsimp [f0, f3, f5, f6, f9, f10, f11, f16, f17, gb3, w1, w2, w3]
      refine acallsW_det cg ?_
      simp -dsimp [f0, f3, f5, f6, f9, f10, f11, f16, f17, wdHn]
      refine app_own o2 hel.symm rfl rfl (by simp; omega) (by simp; omega) fun h' M' o' _ => ?_
      have e1 : WoE (x.take n) ++ [[U (getW b q)]] = WoE (x.take (n + 1)) := by rw [htk]; simp
      rw [e1] at o'
      have e2 : (WoE (x.take n) ++ [[U (getW b q)]]).length = n + 1 := by simp; omega
      rw [e2]
      simp -dsimp [f0, f3, f5, f6, f9, f10, f11, f16, f17]
      exact ⟨n + 1, by omega, ⟨h', o', rfl⟩, wrapS (by omega), by omega⟩
    · have he : n = s := by omega
      subst he
      simp -dsimp [f0, f3, f5, f6, f9, f10, f11, f16, f17]
      exact ⟨h2, o2, rfl⟩
  clear f0 f3 f5 f6 f9 f10 f11 f
  rintro f M3 ⟨⟨h2, o2, f6⟩, f0, f3, f9, f10, f11⟩
  rw [List.take_of_length_le (by omega)] at o2
  have oB : Own 23 1 M M3 h2 (WoE x) := by
    have : M2 = M ++ (L1 ++ [.box 125 [St r.name, I r.addr, I r.size, Bo r.secret]]) := by rw [hM2, List.append_assoc]
    rw [this] at o2
    exact o2.less
  have hne : ∀ j, h2 = some j → h ≠ some j := fun j hj e => by
    have h1 := o2.new j hj
    have h3 := lt_of_get (o.row j e)
    omega
  have hrow3 : ∀ j, h = some j → M3[j]? = some (.row 130 1 (UsE (W.take i))) := fun j hj => o2.old (by rw [hM2]; exact get_app_old (o.row j hj) _)
  refine awp_giveX 6 hu oB (wo_frzB _) f6 (by simp; omega) fun M4 f' a6 hpre aS aB => ?_
  have e0 : f' 0 = .bp k 0 := by rw [aS 0 (by decide) fun j hj hge => by rw [f0]; exact frz_id hge _ (by simp [AV.under]; omega), f0]
  have e3 : f' 3 = hrow h i := by rw [aS 3 (by decide) fun j hj _ => by rw [f3]; exact frz_hrow_ne (hne j hj), f3]
  have e9 : f' 9 = Rg.sl lay := by rw [aS 9 (by decide) fun j hj hge => by rw [f9]; exact frz_id hge _ (by simp [AV.under]), f9]
  have e10 : f' 10 = I lay.length := by rw [aS 10 (by decide) fun j hj _ => by rw [f10]; rfl, f10]
  have e11 : f' 11 = I i := by rw [aS 11 (by decide) fun j hj _ => by rw [f11]; rfl, f11]
  have o4 : Own 130 1 M M4 h (UsE (W.take i)) := ⟨hpre, fun j hj => aB j _ (fun e => hne j e hj) (hrow3 j hj) (by
    have hz' := us_frzB (W.take i)
    rw [List.all_eq_true] at hz'
    simp only [Blk.under, List.all_eq_true]
    intro e he
    exact underL_frzB _ e (fun c hc => hz' c (List.mem_flatten.2 ⟨e, he, hc⟩))), o.nil, o.new⟩
  refine awp_all wdHn (fun _ => none) (by kernel_rfl) ?_
  have hel : (UsE (W.take i)).length = i := by simp; omega
  have htk : W.take (i + 1) = W.take i ++ [x] := by rw [List.take_add_one, hwi]; rfl
  simp -dsimp [e0, e3, e9, e10, e11, a6, wdHn]
  refine app_own o4 hel.symm rfl rfl (by simp; omega) (by simp; omega) fun h' M' o' _ => ?_
  have e1 : UsE (W.take i) ++ [[Wo.sl x]] = UsE (W.take (i + 1)) := by rw [htk]; simp
  rw [e1] at o'
  have e2 : (UsE (W.take i) ++ [[Wo.sl x]]).length = i + 1 := by simp; omega
  rw [e2]
  simp -dsimp [e0, e3, e9, e10, e11]
  exact ⟨h', o', rfl⟩
end Go.Proofs
