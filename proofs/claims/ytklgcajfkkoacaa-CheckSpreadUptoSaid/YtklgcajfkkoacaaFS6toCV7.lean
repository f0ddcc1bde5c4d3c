/- Functions of Go's library as they stand in this program: laid by the kit's own tool. -/
import Derived.Test.YtklgcajfkkoacaaFwGrow
import Derived.Test.YtklgcajfkkoacaaProg
import Derived.Test.YtklgcajfkkoacaaFwUtoCV5
set_option linter.unusedVariables false
set_option linter.unusedSimpArgs false
set_option maxHeartbeats 4000000
set_option maxRecDepth 100000
namespace Go.Proofs
open Go.Shelf
def Try.growI_ren : Go.Shelf.Ren := ⟨fun | 4 => 89 | n => n, fun | 22 => 22 | 25 => 3 | 3 => 3 | 4 => 4 | 9 => 9 | 20 => 20 | 0 => 0 | n => n, fun | n => n⟩
theorem Try.growI : Go.Proofs.Lays8.n4 Try.prog Try.growI_ren := {
  mixed := by kernel_rfl
  f4 := ⟨Try.f89.name, by decide, Try.func89.trans (congrArg some (by kernel_rfl))⟩
  t0 := Try.underlying0
  a0 := Try.isAgg0
  z0 := Try.sizeOf0
  v0 := Try.zeroValue0
  t3 := Try.underlying3
  a3 := Try.isAgg3
  z3 := Try.sizeOf3
  v3 := Try.zeroValue3
  t4 := Try.underlying4
  a4 := Try.isAgg4
  z4 := Try.sizeOf4
  v4 := Try.zeroValue4
  t9 := Try.underlying9
  a9 := Try.isAgg9
  z9 := Try.sizeOf9
  v9 := Try.zeroValue9
  t20 := Try.underlying20
  a20 := Try.isAgg20
  z20 := Try.sizeOf20
  v20 := Try.zeroValue20
  t22 := Try.underlying22
  a22 := Try.isAgg22
  z22 := Try.sizeOf22
  v22 := Try.zeroValue22 }
end Go.Proofs
namespace Go.Proofs
open Go.Mu
theorem grow0_ok (H : List Blk) : ACalls Try.prog 89 [nilS, I 0] H (fun e H' => e = .ret nilS ∧ H' = H) := by
  intro B w0 cx vals hR hH hA
  subst hH
  obtain ⟨v1, vs1, rfl, r1, hA1⟩ := hA.cons_inv
  obtain ⟨v2, vs2, rfl, r2, hA2⟩ := hA1.cons_inv
  obtain rfl := hA2.nil_inv
  obtain rfl := r1.v_inv
  obtain rfl := r2.v_inv
  refine (Any8.slices_Grow_room Try.growI none 0 0 0 cx.w (by omega) (by omega) (by omega) (by omega)).mono ?_
  rintro e w' ⟨rfl, rfl⟩
  exact ⟨cx, nilS, rfl, hR, Le.refl _, .v _, rfl, rfl⟩
theorem grow_ok (n : Nat) (h0 : 0 < n) (hn : n ≤ 2^40) (H : List Blk) : ACalls Try.prog 89 [nilS, I n] H (fun e H' => e = .ret (.hs H.length 0 0 n) ∧ H' = H ++ [intR (List.replicate n 0)]) := by
  have hs : slbOf Try.prog 22 = some (3, 1, [Value.int .i64 0], 8) := by simp
  obtain ⟨ie, z, hu, hi, hz, hzs, his, hp, hzc, hby⟩ := slbOf_spec hs
  have ez : z.cells = #[Value.int .i64 0] := Array.toList_inj.1 hzc
  have := acalls_grow (P := Try.prog) (H := H) (g := 89) (te := 3) n hn fun w => by
    have q := Any8.slices_Grow_grow Try.growI ie z hi hz (by omega) none 0 0 n [] w (by omega) (by omega) (by rw [hby]; omega) (by omega) (by simp) (fun _ => rfl) (fun a h => by cases h)
    have e3 : Try.growI_ren.t 25 = 3 := rfl
    have e89 : Try.growI_ren.f 4 = 89 := rfl
    rw [ez, e3, e89] at q
    simpa using q
  have e : List.replicate n [AV.v (.int .i64 0)] = (List.replicate n (0 : Int)).map fun n => [I n] := by simp
  rw [e] at this
  exact this
theorem flat_take {α : Type} {ls : List (List α)} {i : Nat} {x : List α} (h : ls[i]? = some x) : (ls.take (i + 1)).flatten = (ls.take i).flatten ++ x := by
  obtain ⟨hi, rfl⟩ := List.getElem?_eq_some_iff.1 h
  rw [List.take_succ_eq_append_getElem hi, List.flatten_append]; simp
theorem flat_take_le {α : Type} (ls : List (List α)) (i : Nat) : (ls.take i).flatten.length ≤ ls.flatten.length := by
  have : ls.flatten = (ls.take i).flatten ++ (ls.drop i).flatten := by rw [← List.flatten_append, List.take_append_drop]
  rw [this, List.length_append]; omega
def CatI (H : List Blk) (N : Nat) (l : List Int) (a : AV) (M : List Blk) : Prop :=
  (N = 0 ∧ M = H ∧ a = nilS) ∨ ∃ tl : List Int, M = H ++ [intR tl] ∧ l.length ≤ tl.length ∧ tl.length ≤ N ∧ tl.take l.length = l ∧ a = .hs H.length 0 l.length tl.length
theorem concat_ok (ls : List (List Int)) (hl : ls.length ≤ 2^36) (hf : ls.flatten.length ≤ 2^38) (H : List Blk) : ACalls Try.prog 45 [Ints.sl ls] H (SortR H ls.flatten) := by
  refine acalls_of_vc (hn := fun d => d == 33 || d == 24) (od := fun _ => none) Try.func45 rfl (by kernel_rfl) ?_
  obtain ⟨L, hL⟩ : ∃ L : Nat → List Int, ∀ i, L i = (ls.take i).flatten := ⟨fun i => (ls.take i).flatten, fun i => rfl⟩
  have hL0 : L 0 = [] := by rw [hL]; simp
  have hL1 : ∀ i x, ls[i]? = some x → L (i + 1) = L i ++ x := fun i x h => by rw [hL, hL]; exact flat_take h
  have hLn : L ls.length = ls.flatten := by rw [hL, List.take_length]
  have hLl : ∀ i, (L i).length ≤ ls.flatten.length := fun i => by rw [hL]; exact flat_take_le ls i
  rw [← hLn] at hf hLl ⊢
  clear hL hLn
  have hLl := Hid.mk hLl
  have hL1 := Hid.mk hL1
  have hf := Hid.mk hf
  simp -dsimp
  refine loop_rule (hn := fun d => d == 33 || d == 24) (od := fun _ => none) (fun (i : Nat) f M => H = M ∧ f 0 = Ints.sl ls ∧ f 9 = Ints.sl ls ∧ f 10 = I ls.length ∧ f 11 = I i ∧ f 3 = I (L i).length ∧ i ≤ ls.length) (fun i => ls.length - i) (by kernel_rfl) 0 (by refine ⟨by simp, by simp, by simp, by simp, by simp, by simp [hL0], by omega⟩) ?_
  rintro i f _ ⟨rfl, f0, f9, f10, f11, f3, hi⟩
  simp -dsimp [f0, f3, f9, f10, f11]
  refine condVW_introD (fun hlt => ?_) (fun hlt => ?_)
  · have hlt' : i < ls.length := by omega
    have hx := List.getElem?_eq_getElem hlt'
    obtain ⟨x, hxe⟩ : ∃ x, x = ls[i] := ⟨_, rfl⟩
    rw [← hxe] at hx
    have hnew := hL1.out i x hx
    have hle := hLl.out (i + 1)
    have hf' := hf.out
    have hlen : (L (i + 1)).length = (L i).length + x.length := by rw [hnew, List.length_append]
    clear hnew hxe
    have hw : IntKind.i64.wrap (((L i).length : Int) + (x.length : Int)) = ((L i).length : Int) + (x.length : Int) := wrapI (by omega) (by omega)
    have hd : decide (((L i).length : Int) + (x.length : Int) < 0) = false := decide_eq_false (by omega)
    replace hlen := Hid.mk hlen
    simp -dsimp [f0, f3, f9, f10, f11, hx, hw, hd]
    exact ⟨i + 1, by omega, wrapS (by omega), by rw [hlen.out]; rfl, by omega⟩
  · have hi' : i = ls.length := by omega
    subst hi'
    obtain ⟨N, hN⟩ : ∃ N, N = (L ls.length).length := ⟨_, rfl⟩
    have hf' := hf.out
    rw [← hN] at f3 hf'
    by_cases h0 : N = 0
    · subst h0
      simp -dsimp [f0, f3]
      refine acallsW_det (grow0_ok H) ?_
      simp -dsimp [f0]
      refine loop_rule (hn := fun d => d == 33 || d == 24) (od := fun _ => none) (fun (i : Nat) f M => H = M ∧ f 6 = nilS ∧ f 25 = Ints.sl ls ∧ f 26 = I ls.length ∧ f 27 = I i ∧ i ≤ ls.length) (fun i => ls.length - i) (by kernel_rfl) 0 (by refine ⟨by simp, by simp, by simp, by simp, by simp, by omega⟩) ?_
      clear f0 f3 f9 f10 f11
      clear f
      rintro i f _ ⟨rfl, f6, f25, f26, f27, hi⟩
      simp -dsimp [f6, f25, f26, f27]
      refine condVW_introD (fun hlt => ?_) (fun hlt => ?_)
      · have hlt' : i < ls.length := by omega
        have hx := List.getElem?_eq_getElem hlt'
        obtain ⟨x, hxe⟩ : ∃ x, x = ls[i] := ⟨_, rfl⟩
        rw [← hxe] at hx
        have hnew := hL1.out i x hx
        have hle := hLl.out (i + 1)
        have hx0 : x = [] := by
          rw [hnew, List.length_append] at hle
          exact List.eq_nil_of_length_eq_zero (by omega)
        subst hx0
        simp -dsimp [f6, f25, f26, f27, hx]
        refine appendVW_nil (by simp) (by simp) (fun _ => ?_) (fun hy => absurd rfl hy)
        simp -dsimp [f25, f26, f27]
        exact ⟨i + 1, by omega, wrapS (by omega), by omega⟩
      · simp -dsimp [f6]
        refine ⟨none, ?_, ?_⟩
        · rfl
        · have : L ls.length = [] := List.eq_nil_of_length_eq_zero hN.symm
          rw [this]; exact .nil1 _ _ _
    · simp -dsimp [f0, f3]
      refine acallsW_of (grow_ok N (by omega) (by omega) H) ?_
      rintro e M ⟨rfl, hM⟩
      subst hM
      simp -dsimp [f0]
      refine loop_rule (hn := fun d => d == 33 || d == 24) (od := fun _ => none) (fun (i : Nat) f M => f 25 = Ints.sl ls ∧ f 26 = I ls.length ∧ f 27 = I i ∧ i ≤ ls.length ∧ CatI H N (L i) (f 6) M) (fun i => ls.length - i) (by kernel_rfl) 0 (by refine ⟨by simp, by simp, by simp, by omega, .inr ⟨List.replicate N 0, by simp, by rw [hL0]; simp, by simp, by rw [hL0]; simp, by rw [hL0]; simp⟩⟩) ?_
      clear f0 f3 f9 f10 f11
      clear f
      rintro i f M ⟨f25, f26, f27, hi, hc⟩
      obtain ⟨tl, rfl, h1, h2, h3, f6⟩ := hc.resolve_left (fun h => h0 h.1)
      simp -dsimp [f6, f25, f26, f27]
      refine condVW_introD (fun hlt => ?_) (fun hlt => ?_)
      · have hlt' : i < ls.length := by omega
        have hx := List.getElem?_eq_getElem hlt'
        obtain ⟨x, hxe⟩ : ∃ x, x = ls[i] := ⟨_, rfl⟩
        rw [← hxe] at hx
        have hnew := hL1.out i x hx
        have hle := hLl.out (i + 1)
        rw [← hN] at hle
        have hlen : (L (i + 1)).length = (L i).length + x.length := by rw [hnew, List.length_append]
        replace hnew := Hid.mk hnew
        have h1 := Hid.mk h1
        have h2 := Hid.mk h2
        have h3 := Hid.mk h3
        replace hle := Hid.mk hle
        replace hlen := Hid.mk hlen
        simp -dsimp [f6, f25, f26, f27, hx]
        refine app_cutI (k := H.length) (tl := tl) (by simp) rfl h1.out rfl rfl (by have := hle.out; have := hlen.out; simp; omega) (by have := hle.out; have := hlen.out; omega) ?_
        intro tl' e1 e2 e3
        simp -dsimp [f25, f26, f27]
        refine ⟨i + 1, by omega, wrapS (by omega), by omega, .inr ⟨tl', rfl, ?_, ?_, ?_, ?_⟩⟩
        · rw [hlen.out]; exact e1
        · have := hle.out; have := hlen.out; have := h2.out; omega
        · rw [hlen.out, e2, h3.out, hnew.out]
        · rw [hlen.out]
      · have hi' : i = ls.length := by omega
        subst hi'
        have e : tl = L ls.length := by rw [← h3, List.take_of_length_le (by omega)]
        simp -dsimp [f6]
        subst e
        refine ⟨some H.length, rfl, ⟨_, rfl⟩, fun k hk => ?_, fun h => (by cases h), fun k hk => by cases hk; exact Nat.le_refl _⟩
        cases hk
        simp
end Go.Proofs
namespace Go.Proofs
open Go.Mu
theorem each_argC (l : Linear) (regs : List Int) (lv : AV) (k : Nat) (tl : List Int) (m : Nat) (hm : m ≤ tl.length) (hv : ∀ v ∈ tl.take m, v < regs.length) (hl : m ≤ 2^38) (B M : List Blk) (h : Option Nat) (hu : underH B.length B = true) (o : OwnI B M h tl) (hk : B[k]? = some (ckB l regs lv)) :
    ACalls Try.prog 43 [cutS h m tl.length, regF k] M (SortR B ((tl.take m).map (rgN regs))) := by
  cases h with
  | none =>
    have : tl = [] := List.map_eq_nil_iff.1 (o.nil rfl)
    subst this
    obtain ⟨L, rfl⟩ := o.pre
    refine acalls_weak (args := [cutS none m ([] : List Int).length, regF k]) (args' := [Int.sl [], regF k]) (.cons (.nil 1) (.cons (.refl _) .nil)) ((each_own l regs lv k [] (by simp) (by simp) _ (get_app_old hk L)).mono ?_)
    rintro e M' ⟨h', rfl, ow⟩
    rw [List.take_nil]
    exact ⟨h', rfl, ow.less⟩
  | some j =>
    obtain ⟨L, rfl⟩ := o.pre
    obtain ⟨q, rfl⟩ : ∃ q, j = B.length + q := ⟨j - B.length, by have := o.new j rfl; omega⟩
    have hj := o.row _ rfl
    refine acalls_give (B.length + q) 1 3 (tl.map fun n => [I n]) hj (int_frzB tl) ?_
    rw [frzH_app q hu]
    have e : frzL (B.length + q) 1 (tl.map fun n => [I n]) [cutS (some (B.length + q)) m tl.length, regF k] = [Int.sl (tl.take m), regF k] := by
      simp [frzL, cutS, AV.frz]
    rw [e]
    refine (each_own l regs lv k (tl.take m) hv (by simp; omega) _ (get_app_old hk _)).mono ?_
    rintro e M' ⟨h', rfl, ow⟩
    exact ⟨h', rfl, ow.less⟩
theorem app_cutS {h : Option Nat} {m v : Nat} {M : List Blk} {tl ys : List Int} {sl : TypeId × Nat × List Value × Nat} {K : AV → List Blk → Prop} {w : Wit K} (r : AtI M h tl) (hv : v = tl.length) (hm : m ≤ v) (h1 : sl.1 = 3) (h2 : sl.2.1 = 1)
    (hb : (m + ys.length) * sl.2.2.2 ≤ 140737488355328) (h63 : m + ys.length ≤ 9223372036854775807)
    (K' : ∀ h' M' tl', AtI M' h' tl' → Stp M M' h h' → m + ys.length ≤ tl'.length → tl'.take (m + ys.length) = tl.take m ++ ys → K (cutS h' (m + ys.length) tl'.length) M') : appendVW M sl (cutS h m v) (ys.map fun n => [I n]) K w := by
  cases h with
  | none =>
    have : tl = [] := List.map_eq_nil_iff.1 (r.nil rfl)
    subst this
    subst hv
    obtain rfl : m = 0 := by simpa using hm
    rw [Nat.zero_add] at K' hb h63
    obtain ⟨s1, s2, s3, s4⟩ := sl
    simp only at h1 h2 hb
    subst h1 h2
    refine appendVW_nil (by simpa using hb) (by simpa using h63) (fun hy => ?_) (fun hy => ?_)
    · have : ys = [] := List.map_eq_nil_iff.1 hy
      subst this
      exact K' none M [] ⟨fun _ h => (by cases h), fun _ => rfl⟩ (.refl _ _) (by simp) (by simp)
    · have := K' (some M.length) (M ++ [intR ys]) ys ⟨fun k hk => (by cases hk; simp), fun h => (by cases h)⟩ ⟨by simp, fun i hi _ => List.getElem?_append_left hi, .inr ⟨_, rfl, Nat.le_refl _⟩⟩ (by simp) (by simp)
      simpa [cutS] using this
  | some k =>
    have q := r.row k rfl
    have hkl := lt_of_get q
    refine app_cutI q hv hm h1 h2 hb h63 fun tl' e1 e2 e3 => ?_
    exact K' (some k) (M.set k (intR tl')) tl' ⟨fun j hj => by cases hj; simp [hkl], fun h => (by cases h)⟩ ⟨by simp, fun j hj hne => by rw [List.getElem?_set_ne (fun e => hne (by rw [e]))], .inl rfl⟩ e1 e2
theorem uses_ownU (x : Line) (H : List Blk) : ACalls Try.prog 46 [.agg x.cells] H (fun e M => UsesR x H e M ∧ underH H.length H = true) :=
  acalls_under fun hu _ => (uses_own x H).mono fun e M h => ⟨h, hu⟩
theorem concat_ownU (ls : List (List Int)) (hl : ls.length ≤ 2^36) (hf : ls.flatten.length ≤ 2^38) (H : List Blk) : ACalls Try.prog 45 [Ints.sl ls] H (fun e M => SortR H ls.flatten e M ∧ underH H.length H = true) :=
  acalls_under fun hu _ => (concat_ok ls hl hf H).mono fun e M h => ⟨h, hu⟩
theorem tidy_rowCV {t sz : Nat} {H M : List Blk} {h : Option Nat} {es : List (List AV)} {R : AE → List Blk → Prop} {m n : Nat} {y : Value} (hu : underH H.length H = true) (o : Own t sz H M h es) (hz : es.flatten.all AV.frzB = true) (hn : n = es.length) (hR : R (.ret (.tup [.vs sz (es.take m), .v y])) H) : Tidy H (WeakE R) (.ret (.tup [cutS h m n, .v y])) M := by
  subst hn
  obtain ⟨L, rfl⟩ := o.pre
  exact tidy_giveC (R := WeakE R) (f := fun x => .tup [x, .v y]) (m := m) hu o hz (fun k hk => by simp [AV.frz, frzL]) fun x L' hx _ _ =>
    tidy_same (by simp [AV.under, underL, hx.under]) ⟨_, .tupL (.cons hx.weak (.cons (.refl _) .nil)), hR⟩
def usTo (l : Linear) (regs : List Int) (i : Nat) : List Int := (l.params ++ l.rets).map (rg regs) ++ (l.code.take i).flatMap fun x => (x.uses ++ x.defs).map (rg regs)
theorem usTo_succ {l : Linear} {regs : List Int} {i : Nat} {x : Line} (hx : l.code[i]? = some x) : usTo l regs (i + 1) = usTo l regs i ++ (x.uses ++ x.defs).map (rg regs) := by
  unfold usTo
  rw [List.take_add_one, hx, List.flatMap_append, List.append_assoc]
  simp
theorem usTo_len {l : Linear} (hs : l.Sm) (regs : List Int) {i : Nat} (hi : i ≤ l.code.length) : (usTo l regs i).length ≤ 2^39 := by
  have h1 : ∀ c : List Line, (c.flatMap fun x => (x.uses ++ x.defs).map (rg regs)).length ≤ 4 * c.length := by
    intro c
    induction c with
    | nil => simp
    | cons x c ih =>
      have h2 := raw_len x
      have h3 := defs_len x
      have h4 : x.uses.length ≤ x.raw.length := riseL_len _
      rw [List.flatMap_cons, List.length_append, List.length_cons, List.length_map, List.length_append]
      omega
  have := h1 (l.code.take i)
  have h5 := hs.code
  have h6 := hs.params
  have h7 := hs.rets
  unfold usTo
  rw [List.length_append, List.length_map, List.length_append]
  rw [List.length_take] at this
  omega
theorem usTo_all (l : Linear) (regs : List Int) : riseL (usTo l regs l.code.length) = useL l regs := by
  unfold usTo useL cntRaw
  rw [List.take_of_length_le (Nat.le_refl _)]
  refine sorted_ext (riseL_rise _) (riseL_rise _) fun v => ?_
  rw [riseL_mem, riseL_mem]
  simp only [List.mem_append, List.mem_map, List.mem_flatMap, Line.uses, riseL_mem]
  constructor
  · rintro (⟨a, h, e⟩ | ⟨x, hx, a, h, e⟩)
    · exact ⟨a, .inl h, e⟩
    · exact ⟨a, .inr ⟨x, hx, h⟩, e⟩
  · rintro ⟨a, h | ⟨x, hx, h⟩, e⟩
    · exact .inl ⟨a, h, e⟩
    · exact .inr ⟨x, hx, a, h, e⟩
noncomputable def usedE (l : Linear) (regs : List Int) : AE := if (chkM l regs).2 = 0 then .ret (.tup [Int.sl (useL l regs), I 0]) else .ret (.tup [Int.sl [], I (chkM l regs).2])
theorem used_ok (l : Linear) (hs : l.Sm) (regs : List Int) (hrl : regs.length ≤ 2^36) (H : List Blk) : ACalls Try.prog 20 [.agg l.cells, Int.sl regs] H (fun e H' => e = usedE l regs ∧ H' = H) := by
  refine acalls_under fun hu _ => acalls_weakE (acalls_tidy (acalls_of_vc (hn := fun d => d == 51 || d == 55) (od := fun _ => none) Try.func20 rfl (by kernel_rfl) ?_))
  have ck := fun H => ccheck_ok l hs regs hrl H
  have h0 := @chk0 l regs
  obtain ⟨E, hE⟩ : ∃ E, E = usedE l regs := ⟨_, rfl⟩
  rw [← hE]
  unfold usedE at hE
  obtain ⟨a, ha⟩ : ∃ a, a = (chkM l regs).1 := ⟨_, rfl⟩
  obtain ⟨b, hb⟩ : ∃ b, b = (chkM l regs).2 := ⟨_, rfl⟩
  rw [← hb] at h0 hE
  simp only [← ha, ← hb] at ck
  simp only [Linear.cells] at ck
  clear ha hb
  by_cases hb0 : b = 0
  · rw [if_pos hb0] at hE
    subst hb0
    obtain ⟨hok, hbg⟩ := h0 rfl
    have ho := ((ok_iff l).1 hok).1
    have hlen := ((beg_iff ho).1 hbg).len
    have hlines := ho.lines
    have hpl := hs.params
    have hrl2 := hs.rets
    have hc := hs.code
    clear hok hbg h0
    obtain ⟨C, hC⟩ : ∃ C, C = H ++ [.box 25 [I l.vars, Int.sl l.params, Int.sl l.rets, I l.frame, Line.sl l.code], ckB l regs nilS] := ⟨_, rfl⟩
    have hkC : C[H.length + 1]? = some (ckB l regs nilS) := by rw [hC]; simp
    have hlC : C[H.length]? = some (.box 25 [I l.vars, Int.sl l.params, Int.sl l.rets, I l.frame, Line.sl l.code]) := by rw [hC]; simp
    have e1 := concat_ownU [l.params, l.rets] (by simp) (by simp; omega) C
    have ef : [l.params, l.rets].flatten = l.params ++ l.rets := by simp
    rw [ef] at e1
    have hE := Hid.mk hE
    have hu := Hid.mk hu
    have hlen := Hid.mk hlen
    simp -dsimp
    refine acallsW_det (ck _) ?_
    simp -dsimp
    rw [← hC]
    replace hC := Hid.mk hC
    refine acallsW_of e1 ?_
    rintro e M ⟨⟨h, rfl, ow⟩, huC⟩
    have e2 := each_argC l regs nilS (H.length + 1) (l.params ++ l.rets) (l.params ++ l.rets).length (Nat.le_refl _) (fun v hv => by
      rw [List.take_of_length_le (Nat.le_refl _), List.mem_append] at hv
      have := hlen.out
      rcases hv with hv | hv
      · have := ho.params v hv; omega
      · have := ho.rets v hv; omega) (by simp; omega) C M h huC ow hkC
    rw [List.take_of_length_le (Nat.le_refl _), map_rgN regs (fun v hv => by
      rw [List.mem_append] at hv
      rcases hv with hv | hv
      · exact (ho.params v hv).1
      · exact (ho.rets v hv).1), cutS_all] at e2
    have eu : (l.params ++ l.rets).map (rg regs) = usTo l regs 0 := by unfold usTo; simp
    rw [eu] at e2
    obtain ⟨pr, hpr⟩ : ∃ pr, pr = l.params ++ l.rets := ⟨_, rfl⟩
    rw [← hpr] at e2 ow ⊢
    clear hpr eu e1
    simp -dsimp
    refine acallsW_of e2 ?_
    clear e2 ow
    rintro e M ⟨h2, rfl, ow⟩
    have hlM := ow.old hlC
    simp -dsimp [hlM]
    refine loop_rule (hn := fun d => d == 51 || d == 55) (od := fun _ => none) (fun (i : Nat) f M => f 8 = .bp (H.length + 1) 0 ∧ f 37 = Line.sl l.code ∧ f 38 = I l.code.length ∧ f 39 = I i ∧ i ≤ l.code.length ∧ ∃ h, f 9 = hrow h (usTo l regs i).length ∧ OwnI C M h (usTo l regs i)) (fun i => l.code.length - i) (by kernel_rfl) 0 (by refine ⟨by simp, by simp, by simp, by simp, by omega, h2, by simp, ow⟩) ?_
    clear hlM ow h2 h pr M ck
    rintro i f M ⟨f8, f37, f38, f39, hi, h, f9, ow⟩
    simp -dsimp [f8, f9, f37, f38, f39]
    refine condVW_introD (fun hlt => ?_) (fun hlt => ?_)
    · have hlt' : i < l.code.length := by omega
      have hx := List.getElem?_eq_getElem hlt'
      have hxm : l.code[i] ∈ l.code := List.getElem_mem hlt'
      have hlo := hlines _ hxm
      obtain ⟨x, hxe⟩ : ∃ x, x = l.code[i] := ⟨_, rfl⟩
      rw [← hxe] at hx hlo
      clear hxe hxm hlines
      have g41 : (l.code.map Line.cells)[i]? = some x.cells := by rw [List.getElem?_map, hx]; rfl
      have hul := usTo_len hs regs (i := i) hi
      have hnew := usTo_succ (regs := regs) hx
      obtain ⟨_, l2, l3⟩ := line_in hlo
      have hin : ∀ v ∈ x.uses ++ x.defs, 0 ≤ v ∧ v < l.vars := fun v hv => by
        rw [List.mem_append] at hv
        rcases hv with hv | hv
        · exact l2 v ((riseL_mem _ _).1 hv)
        · exact l3 v hv
      have hud : x.uses.length ≤ 3 := Nat.le_trans (riseL_len _) (raw_len x)
      have hdl := defs_len x
      have cu := uses_ownU x (M ++ [.box 41 x.cells])
      obtain ⟨pr, hpr⟩ : ∃ pr, pr = usTo l regs i := ⟨_, rfl⟩
      rw [← hpr] at f9 ow hul hnew
      obtain ⟨nx, hnx⟩ : ∃ nx, nx = usTo l regs (i + 1) := ⟨_, rfl⟩
      rw [← hnx] at hnew
      obtain ⟨us, hus⟩ : ∃ us, us = x.uses := ⟨_, rfl⟩
      obtain ⟨dl, hdf⟩ : ∃ dl, dl = x.defs := ⟨_, rfl⟩
      unfold UsesR at cu
      rw [← hus, ← hdf] at cu hin hnew
      rw [← hus] at hud
      rw [← hdf] at hdl
      clear hpr hus hdf l2 l3 hlo hx
      obtain ⟨kind, ⟨ik, op, d, a, b, c, word, stack⟩, var, label⟩ := x
      simp only [Line.cells] at cu
      have hnew := Hid.mk hnew
      have hin := Hid.mk hin
      have hnx := Hid.mk hnx
      simp -dsimp [f8, f9, f37, f38, f39, g41]
      refine acallsW_of cu ?_
      clear cu
      rintro e M2 ⟨⟨h1, hd, es, m, rfl, tw, hm, ht⟩, huB⟩
      obtain ⟨B, hB⟩ : ∃ B, B = M ++ [.box 41 [I kind, I ik, I op, I d, I a, I b, I c, U word, Bo stack, I var, I label]] := ⟨_, rfl⟩
      rw [← hB] at tw huB
      have owB : OwnI C B h pr := by rw [hB]; exact ow.app _
      clear hB
      have hml : m = us.length := by rw [← ht, List.length_take]; omega
      have sd := srcEs_own tw.dwn.at'
      rw [map_len] at sd
      simp -dsimp [f8, f9, f37, f38, f39, sd]
      refine app_cutS tw.own.at' rfl hm rfl rfl (by simp; omega) (by omega) ?_
      intro h3 M3 tl r3 s3 q1 q2
      rw [ht] at q2
      have ow3 : OwnI B M3 h3 tl := tw.own.step r3 s3
      have ce := each_argC l regs nilS (H.length + 1) tl (m + dl.length) q1 (fun v hv => by rw [q2] at hv; have := hin.out v hv; have := hlen.out; omega) (by omega) B M3 h3 huB ow3 (owB.old hkC)
      rw [q2, map_rgN regs (fun v hv => (hin.out v hv).1)] at ce
      obtain ⟨E2, hE2⟩ : ∃ E2, E2 = (us ++ dl).map (rg regs) := ⟨_, rfl⟩
      have hE2l : E2.length ≤ 4 := by rw [hE2]; simp; omega
      rw [← hE2] at ce hnew
      replace hE2 := Hid.mk hE2
      simp -dsimp [f8, f9, f37, f38, f39]
      refine acallsW_of ce ?_
      clear ce sd tw
      rintro e M4 ⟨h4, rfl, ow4⟩
      have sd := srcEs_own ow4.at'
      rw [map_len] at sd
      obtain ⟨L4, rfl⟩ := ow4.pre
      have owC : OwnI C (B ++ L4) h pr := owB.app L4
      simp -dsimp [f8, f9, f37, f38, f39, sd]
      refine app_own owC (by simp) rfl rfl (by simp; omega) (by simp; omega) ?_
      intro h5 M5 ow5 _
      have ow6 : OwnI C M5 h5 (pr ++ E2) := by unfold OwnI; rw [List.map_append]; exact ow5
      have e : (pr.map (fun n => [I n]) ++ E2.map (fun n => [I n])).length = (pr ++ E2).length := by simp
      rw [e]
      rw [← hnew.out] at ow6 ⊢
      simp -dsimp [f8, f37, f38, f39]
      refine ⟨i + 1, by omega, wrapS (by omega), by omega, h5, ?_, ?_⟩
      · rw [← hnx.out]
      · rw [← hnx.out]; exact ow6
    · have hi' : i = l.code.length := by omega
      subst hi'
      have hul := usTo_len hs regs (i := l.code.length) (Nat.le_refl _)
      have hua := usTo_all l regs
      obtain ⟨pr, hpr⟩ : ∃ pr, pr = usTo l regs l.code.length := ⟨_, rfl⟩
      rw [← hpr] at f9 ow hul hua
      clear hpr
      have hua := Hid.mk hua
      have hs1 := isort_h pr (by omega) h M ow.at'
      simp -dsimp [f9]
      refine acallsW_of hs1 ?_
      rintro e M1 ⟨rfl, r1, s1⟩
      have ow1 : OwnI C M1 h (sortI pr) := ow.step r1 s1
      have hl := (sortI_perm pr).length_eq
      have hc1 := icompact_h (sortI pr) (by omega) h M1 r1
      rw [hl] at hc1
      replace hl := Hid.mk hl
      simp -dsimp [f9]
      refine acallsW_of hc1 ?_
      rintro e M2 ⟨rfl, r2, s2⟩
      have ow2 : OwnI C M2 h (compRow (sortI pr)) := ow1.step r2 s2
      have ow3 : OwnI H M2 h (compRow (sortI pr)) := by rw [hC.out] at ow2; exact ow2.less
      simp -dsimp
      refine tidy_rowCV hu.out ow3 (int_frzB _) (by rw [map_len, compRow_len]; exact hl.out.symm) ⟨?_, rfl⟩
      rw [hE.out, ← List.map_take, compRow_take, compact_sort, hua.out]
  · rw [if_neg hb0] at hE
    have hE := Hid.mk hE
    have hbb : (b != 0) = true := by simpa using hb0
    simp -dsimp
    refine acallsW_det (ck _) ?_
    simp -dsimp [hbb]
    exact tidy_same rfl ⟨_, .tupL (.cons (.nil 1) (.cons (.refl _) .nil)), by rw [hE.out]; rfl, rfl⟩
end Go.Proofs
