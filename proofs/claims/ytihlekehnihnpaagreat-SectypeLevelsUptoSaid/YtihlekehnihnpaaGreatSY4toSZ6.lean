/- The document's layer 9: fail, array. -/
import Derived.Test.YtihlekehnihnpaaGreatSY3toSZ4
set_option linter.unusedVariables false
set_option linter.unusedSimpArgs false
set_option maxHeartbeats 4000000
set_option maxRecDepth 100000
namespace Go.Proofs
open Go.Mu
variable {M M' : List Blk} {kc : Nat} {h : Option Nat} {p : Pg} {f : Nat} {l : List Bool} {e g : Int}
theorem fail_ok (hd : DIn M kc h p f l e g) (n : Int) : ACalls Tryz.prog 74 [.bp kc 0, I n] M (fun r M' => r = .ret (.tup []) ∧ M' = M.set kc (chkB p f (rowX h l.length) (if e = 0 then n else e) g)) := by
  refine acalls_of_vc (hn := fun _ => false) (od := fun _ => none) Tryz.func74 rfl (by kernel_rfl) ?_
  have hb := hd.box
  have hs := s1_same hb
  simp only [chkB, chkC] at hb hs
  simp -dsimp [hb]
  refine condVW_introE (fun k => ?_) (fun k k1 k2 => ?_)
  · simp -dsimp [hb]
    simp only [k, if_true]
    rfl
  · simp -dsimp
    simp only [if_neg k, chkC]
    exact hs.symm
theorem rarr_ok (hp : RIn p) (hf : f < p.funcs.length) (hd : DIn M kc h p f l e g) (n : ByteArray) (hn : n ∈ Keys (arrT p.regions (fcAt p f))) :
    ACalls Tryz.prog 75 [.bp kc 0, St n] M (fun r M' => r = .ret (Bo (lookB n (arrT p.regions (fcAt p f)))) ∧ M' = M) := by
  refine acalls_tidy (acalls_of_vc (hn := fun _ => false) (od := fun _ => none) Tryz.func75 rfl (by kernel_rfl) ?_)
  have hb := hd.box
  simp only [chkB, chkC] at hb
  have cf := fun H => find2_ok p f n hp.ok hf H
  simp only [Pg.cells] at cf
  have ha := find_arr (hp.fn f hf).nm hn
  obtain ⟨B, hB⟩ : ∃ B, B = lookB n (arrT p.regions (fcAt p f)) := ⟨_, rfl⟩
  rw [← hB] at ha ⊢
  obtain ⟨hF, hFm⟩ := fcAt_get hf
  obtain ⟨F, hFe⟩ : ∃ F, F = fcAt p f := ⟨_, rfl⟩
  rw [← hFe] at ha cf hF
  have hw := (hp.fn f hf).words
  rw [← hFe] at hw
  have fin : ∀ b, b = B → Tidy M (fun r M' => r = .ret (Bo B) ∧ M' = M) (.ret (Bo b)) M := fun b hb => by rw [hb]; exact tidy_now rfl ⟨rfl, rfl⟩
  clear hB hFe
  rcases ha with ⟨j, v, h1, h2, h3, h4⟩ | ⟨r, h1, h2, h3, h4⟩
  · have k1 : findK p.regions (allV F) n = 2 := by rw [findK, h2]; rfl
    have k2 : findN p.regions (allV F) n = F.params.length + j := by rw [findN, h2, h3]; rfl
    rw [k1, k2] at cf
    have hj := (List.getElem?_eq_some_iff.1 h1).1
    have w1 : IntKind.i64.wrap ((F.params.length : Int) + (j : Int) - F.params.length) = (j : Int) := by rw [wrapI (by omega) (by omega)]; omega
    have hFc : (p.funcs.map Fc.cells)[f]? = some F.cells := by rw [List.getElem?_map, hF]; rfl
    have hvc : (F.vars.map Vr.cells)[j]? = some v.cells := by rw [List.getElem?_map, h1]; rfl
    simp only [Fc.cells] at hFc
    simp only [Vr.cells] at hvc
    simp -dsimp [hb]
    refine callDW_intro (cf _) ?_
    simp -dsimp [hb, hFc, hvc, w1]
    exact fin _ h4
  · have k1 : findK p.regions (allV F) n = 3 := by rw [findK, h2, h3]; rfl
    have k2 : findN p.regions (allV F) n = idxR p.regions n := by rw [findN, h2, h3]; rfl
    rw [k1, k2] at cf
    have hrc : (p.regions.map Rg.cells)[idxR p.regions n]? = some r.cells := by rw [List.getElem?_map, h1]; rfl
    simp only [Rg.cells] at hrc
    simp -dsimp [hb]
    refine callDW_intro (cf _) ?_
    simp -dsimp [hb, hrc]
    exact fin _ h4
theorem astore_bool {M : List Blk} {k i : Nat} {l : List Bool} (hr : M[k]? = some (bRow l)) (hi : i < l.length) (b : Bool) : astore M (.rp k l.length i 0) [Bo b] = some (M.set k (bRow (l.set i b))) := by
  have hx := List.getElem?_eq_getElem hi
  have e : (l.map fun b => [Bo b])[i]? = some [Bo l[i]] := by rw [List.getElem?_map, hx]; rfl
  unfold astore
  simp only [hr, bRow]
  rw [if_pos (by simp), e]
  simp [spl, List.map_set]
end Go.Proofs
namespace Go.Proofs
open Go.Mu
def ExQ (M : List Blk) (kc : Nat) (p : Pg) (f : Nat) (X : AV) (g : Int) (s : Bool) (e : Int) : AE → List Blk → Prop := fun r M' => r = .ret (Bo s) ∧ ∃ L, M' = M.set kc (chkB p f X e g) ++ L
theorem dexpr_ok (p : Pg) (hp : RIn p) (f : Nat) (hf : f < p.funcs.length) (t : Tab) (n : Nat) : ∀ (x : Ex), x.count ≤ n → x.count ≤ 2^40 → x.nm (Keys (enterT (fcAt p f))) (Keys (arrT p.regions (fcAt p f))) = true → ∀ {M : List Blk} {kc : Nat} {h : Option Nat} {e g : Int}, DIn M kc h p f (atOf (fcAt p f) t) e g →
    ACalls Tryz.prog 26 [.bp kc 0, .agg x.cells] M (ExQ M kc p f (rowX h (atOf (fcAt p f) t).length) g (x.exM t (arrT p.regions (fcAt p f))).1 (failE (x.exM t (arrT p.regions (fcAt p f))).2 e)) := by
  induction n with
  | zero => intro x he; rw [Ex.count_eq] at he; omega
  | succ n ih =>
    intro x he he40 hnm M kc h e g hd
    refine acalls_of_vc (hn := fun _ => false) (od := fun _ => none) Tryz.func26 rfl (by kernel_rfl) ?_
    obtain ⟨ar, har⟩ : ∃ ar, ar = arrT p.regions (fcAt p f) := ⟨_, rfl⟩
    obtain ⟨A, hA⟩ : ∃ A, A = atOf (fcAt p f) t := ⟨_, rfl⟩
    have hAl : A.length ≤ 64 := by rw [hA, at_len]; have := (hp.fn f hf).words; simpa [allV] using this
    have cf := fun n H => find2_ok p f n hp.ok hf H
    simp only [Pg.cells] at cf
    have hfw := fun n hn => findN_word (p := p) (k := f) hp hf (n := n) hn
    have hag := fun i v hv => at_get (F := fcAt p f) (t := t) (i := i) (v := v) hv
    have carr := fun n hn (M : List Blk) (l : List Bool) (e : Int) (hd : DIn M kc h p f l e g) => rarr_ok hp hf hd n hn
    rw [nm_iff] at hnm
    obtain ⟨n1, n2, n3⟩ := hnm
    have ih := fun (x : Ex) h1 h2 h3 M e hd => ih x h1 h2 h3 (M := M) (kc := kc) (h := h) (e := e) (g := g) hd
    rw [← har] at n2 n3 ih carr ⊢
    rw [← hA] at hd ih hag ⊢
    obtain ⟨K, hK⟩ : ∃ K, K = Keys (enterT (fcAt p f)) := ⟨_, rfl⟩
    rw [← hK] at n1 n3 ih hfw
    obtain ⟨vs, hvs⟩ : ∃ vs, vs = allV (fcAt p f) := ⟨_, rfl⟩
    rw [← hvs] at hag cf hfw
    clear hA har hK hvs
    obtain ⟨X, hX⟩ : ∃ X, X = rowX h A.length := ⟨_, rfl⟩
    obtain ⟨bE, hbE⟩ : ∃ bE, bE = Blk.box 53 x.cells := ⟨_, rfl⟩
    obtain ⟨V, hV⟩ : ∃ V : Int → List Blk → List Blk, V = fun e L => M.set kc (chkB p f X e g) ++ bE :: L := ⟨_, rfl⟩
    have hVe : ∀ e L, V e L = M.set kc (chkB p f X e g) ++ bE :: L := fun e L => by rw [hV]
    have hkl := lt_of_get hd.box
    have hD : ∀ e L, DIn (V e L) kc h p f A e g := fun e L => by rw [hVe, hX]; exact (hd.setE e g).app _
    have vg : ∀ e L, (V e L)[kc]? = some (.box 64 [Rg.sl p.regions, Fc.sl p.funcs, I f, X, I e, I g]) := fun e L => by rw [hVe]; exact s1_get hkl _ _
    have vs' : ∀ e e' L, (V e L).set kc (chkB p f X e' g) = V e' L := fun e e' L => by rw [hVe, hVe]; exact s1_set hkl _ _ _
    have vA : ∀ e L R, V e L ++ R = V e (L ++ R) := fun e L R => by rw [hVe, hVe]; simp
    have v0 : ∀ e L, (V e L)[M.length]? = some (.box 53 [I x.op, U x.word, St x.name, Ex.sl x.args]) := fun e L => by rw [hVe, hbE, Ex.cells_eq]; simp
    have g0 : M ++ [Blk.box 53 [I x.op, U x.word, St x.name, Ex.sl x.args]] = V e [] := by rw [hVe, hbE, Ex.cells_eq, hX, s1_same hd.box]
    obtain ⟨sB, bB, hsb⟩ : ∃ s b, x.exM t ar = (s, b) := ⟨_, _, rfl⟩
    rw [hsb]
    simp only
    have fin : ∀ s e' L, s = sB → e' = failE bB e → ExQ M kc p f (rowX h A.length) g sB (failE bB e) (.ret (Bo s)) (V e' L) := fun s e' L h1 h2 => by
      rw [h1, h2, hVe, hX]; exact ⟨rfl, _, rfl⟩
    rw [Ex.exM_eq] at hsb
    have hlen := exs_len x.args
    have hcnt := Ex.count_eq x
    have hb2 : ∀ i (hi : i < x.args.length), x.args[i].count < x.count := fun i hi => exs_parts x hi
    clear hV hbE
    rw [← hX]
    rw [← hX] at fin ih
    simp -dsimp
    rw [g0]
    refine loop_rule (hn := fun _ => false) (od := fun _ => none) (fun (y : Nat × List Blk) q H' => H' = V (failE (exsM t ar (x.args.take y.1)).2 e) y.2 ∧ q 0 = .bp kc 0 ∧ q 3 = .bp M.length 0 ∧ q 5 = Bo (exsM t ar (x.args.take y.1)).1 ∧ q 6 = I y.1 ∧ y.1 ≤ x.args.length) (fun y => x.args.length - y.1) (by kernel_rfl) (0, [])
      ⟨by simp [exsM, failE], by simp, by simp, by simp [exsM], by simp, by simp⟩ ?_
    rintro ⟨i, L⟩ q _ ⟨rfl, q0, q3, q5, q6, hi⟩
    simp only at q5 q6 hi
    obtain ⟨r, hr⟩ : ∃ r, r = exsM t ar (x.args.take i) := ⟨_, rfl⟩
    simp only
    rw [← hr] at q5 ⊢
    replace hr := Hid.mk hr
    replace hsb := Hid.mk hsb
    simp -dsimp [q0, q3, q5, q6, v0]
    refine condVW_introD (fun hlt => ?_) (fun hlt => ?_)
    · have hlt' : i < x.args.length := by omega
      have hb3 := hb2 i hlt'
      have hn3 := exsNm_get n3 hlt'
      have htk := take_succ' hlt'
      have hlx := List.getElem?_eq_getElem hlt'
      obtain ⟨y, hy⟩ : ∃ y, y = x.args[i] := ⟨_, rfl⟩
      rw [← hy] at hn3 hlx hb3 htk
      clear hy
      have hsn : exsM t ar (x.args.take (i + 1)) = (r.1 || (y.exM t ar).1, r.2 || (y.exM t ar).2) := by rw [htk, exsM_snoc, hr.out]
      have ih := ih y (by omega) (by omega) hn3 (V (failE r.2 e) L) _ (hD _ _)
      simp only [Ex.cells_eq] at ih
      have w1 : IntKind.i64.wrap ((i : Int) + 1) = ((i + 1 : Nat) : Int) := wrapS (by omega)
      have hsl : (x.args.map Ex.cells)[i]? = some [I y.op, U y.word, St y.name, Ex.sl y.args] := by rw [List.getElem?_map, hlx, Option.map_some, Ex.cells_eq]
      simp -dsimp [q0, q3, q5, q6, hsl, v0]
      refine acallsW_of ih ?_
      rintro z H' ⟨rfl, L', hz⟩
      rw [vs', vA, ← failE_or] at hz
      subst hz
      cases hl : (y.exM t ar).1
      · rw [hl, Bool.or_false] at hsn
        simp -dsimp [q0, q3, q5, q6]
        exact ⟨i + 1, by omega, ⟨_, by rw [hsn]⟩, by rw [hsn], w1, by omega⟩
      · rw [hl, Bool.or_true] at hsn
        simp -dsimp [q0, q3, q5, q6]
        exact ⟨i + 1, by omega, ⟨_, by rw [hsn]⟩, by rw [hsn], w1, by omega⟩
    · have hr := hr.out
      rw [List.take_of_length_le (by omega)] at hr
      have hsb := hsb.out
      rw [← hr] at hsb
      obtain ⟨s, b⟩ := r
      simp only at hsb q5 ⊢
      clear hr
      by_cases h2 : x.op = 2
      · rw [if_pos h2] at hsb
        obtain ⟨z1, z2⟩ := Prod.mk.inj hsb
        obtain ⟨e1, e2, v, e3, e4⟩ := hfw _ (n1 h2)
        have cf := fun H => cf x.name H
        rw [e1, e2] at cf
        obtain ⟨j, hj⟩ : ∃ j, j = idxV vs x.name := ⟨_, rfl⟩
        rw [← hj] at cf e3
        have e5 := hag j v e3
        rw [e4] at e5
        simp -dsimp [q0, q3, q5, v0, h2, vg]
        refine callDW_intro (cf _) ?_
        have hjl := (List.getElem?_eq_some_iff.1 e5).1
        cases h with
        | none => have := hd.row.nil rfl; subst this; simp at hjl
        | some k =>
          have hk := (hD (failE b e) L).row.row k rfl
          simp only [bRow] at hk
          have hxe : X = .hs k 0 A.length A.length := hX
          have e6 : (A.map fun b => [Bo b])[j]? = some [Bo (lookB x.name t)] := by rw [List.getElem?_map, e5]; rfl
          simp -dsimp [q0, vg, hxe, hk, e6]
          refine ⟨hjl, ?_⟩
          simp -dsimp [q0, vg, hxe, hk, e6]
          rw [← hxe]
          exact fin _ _ _ z1 (by rw [← z2])
      · have h2b : (x.op == 2) = false := by simpa using h2
        rw [if_neg h2] at hsb
        by_cases h3 : x.op = 3
        · rw [if_pos h3] at hsb
          obtain ⟨z1, z2⟩ := Prod.mk.inj hsb
          have ca := fun M l e hd => carr x.name (n2 h3) M l e hd
          cases s
          · simp -dsimp [q0, q3, q5, v0, h3, vg]
            refine acallsW_det (ca _ _ _ (hD _ _)) ?_
            simp -dsimp
            exact fin _ _ _ z1 (by rw [← z2, Bool.or_false])
          · simp -dsimp [q0, q3, q5, v0, h3, vg]
            have cfl := fail_ok (hD (failE b e) L) 10
            rw [← hX, vs'] at cfl
            refine acallsW_of cfl ?_
            rintro z H' ⟨rfl, rfl⟩
            simp -dsimp [q0, q3, v0]
            refine acallsW_det (ca _ _ _ (hD _ _)) ?_
            simp -dsimp
            exact fin _ _ _ z1 (by rw [← z2, failE_or]; generalize failE b e = e'; unfold failE; simp)
        · have h3b : (x.op == 3) = false := by simpa using h3
          rw [if_neg h3] at hsb
          obtain ⟨z1, z2⟩ := Prod.mk.inj hsb
          simp -dsimp [q0, q3, q5, v0, h2b, h3b]
          exact fin _ _ _ z1 (by rw [← z2])
end Go.Proofs
namespace Go.Proofs
open Go.Mu
@[simp] theorem avCells_rowX (h : Option Nat) (n : Nat) : avCells (rowX h n) = some [rowX h n] := by cases h <;> rfl
@[simp] theorem one_rowX (h : Option Nat) (n : Nat) : (rowX h n).one = true := by cases h <;> rfl
structure Pre (M M' : List Blk) : Prop where
  len : M.length ≤ M'.length
  get : ∀ i, i < M.length → M'[i]? = M[i]?
theorem Pre.refl (M : List Blk) : Pre M M := ⟨Nat.le_refl _, fun _ _ => rfl⟩
theorem Pre.trans {M M1 M2 : List Blk} (a : Pre M M1) (b : Pre M1 M2) : Pre M M2 := ⟨Nat.le_trans a.len b.len, fun i hi => by rw [b.get i (Nat.lt_of_lt_of_le hi a.len), a.get i hi]⟩
theorem Pre.app (M L : List Blk) : Pre M (M ++ L) := ⟨by simp, fun i hi => List.getElem?_append_left hi⟩
theorem Pre.old {M M' : List Blk} (a : Pre M M') {k : Nat} {b : Blk} (h : M[k]? = some b) : M'[k]? = some b := by rw [a.get k (lt_of_get h)]; exact h
theorem Pre.row {M M' : List Blk} (a : Pre M M') {h : Option Nat} {l : List Bool} (hr : BRow M h l) : BRow M' h l := ⟨fun k hk => a.old (hr.row k hk), hr.nil⟩
theorem Pre.din {M M' : List Blk} (a : Pre M M') {kc : Nat} {h : Option Nat} {p : Pg} {f : Nat} {l : List Bool} {e g : Int} (hd : DIn M kc h p f l e g) : DIn M' kc h p f l e g := ⟨a.old hd.box, a.row hd.row⟩
def New (B : Nat) (h : Option Nat) : Prop := ∀ k, h = some k → B ≤ k
theorem app_brow {n : Nat} {M H : List Blk} {h : Option Nat} {l ys : List Bool} {sl : TypeId × Nat × List Value × Nat} {K : AV → List Blk → Prop} {w : Wit K} (hr : BRow H h l) (hm : l.length = n) (hn : New M.length h) (hp : Pre M H) (h1 : sl.1 = 4) (h2 : sl.2.1 = 1) (hs : sl.2.2.2 ≤ 16) (hb : l.length + ys.length ≤ 2^39)
    (k : ∀ h' H', BRow H' h' (l ++ ys) → New M.length h' → Pre M H' → (∀ i b, h ≠ some i → H[i]? = some b → H'[i]? = some b) → (∀ i, i < H.length → h ≠ some i → h' ≠ some i) → K (rowX h' (n + ys.length)) H') : appendVW H sl (rowX h n) (ys.map fun b => [Bo b]) K w := by
  obtain ⟨s1, s2, s3, s4⟩ := sl
  simp only at h1 h2 hs
  subst h1 h2 hm
  have hbd : (l.length + ys.length) * s4 ≤ 140737488355328 := by
    have : (l.length + ys.length) * s4 ≤ (l.length + ys.length) * 16 := Nat.mul_le_mul_left _ hs
    omega
  have hl := hp.len
  cases h with
  | none =>
    have := hr.nil rfl
    subst this
    simp only [List.length_nil, Nat.zero_add] at hbd
    simp only [rowX]
    refine appendVW_nil (by simpa using hbd) (by simp at hb ⊢; omega) (fun hy => ?_) (fun hy => ?_)
    · have : ys = [] := by simpa using hy
      subst this
      exact k none H ⟨fun _ h => (by cases h), fun _ => rfl⟩ hn hp (fun i b _ h => h) (fun i _ h => h)
    · have := k (some H.length) (H ++ [bRow ys]) ⟨fun k hk => (by cases hk; simp), fun h => (by cases h)⟩ (fun k hk => (by cases hk; exact hl)) (hp.trans (.app _ _)) (fun i b _ h => get_app_old h _) (fun i hi _ e => by cases e; omega)
      simpa [rowX, bRow] using this
  | some i =>
    have q3 := hr.row i rfl
    have hil := lt_of_get q3
    have q1 := hn i rfl
    simp only [bRow] at q3
    simp only [rowX]
    refine appendVW_hs (es := l.map fun s => [Bo s]) q3 (by simp) (by simp) (by simpa using hbd) (by simp; omega) ?_
    have e : l.map (fun s => [Bo s]) ++ ys.map (fun s => [Bo s]) = (l ++ ys).map fun s => [Bo s] := by simp
    rw [e]
    have := k (some i) (H.set i (bRow (l ++ ys))) ⟨fun k hk => (by cases hk; simp [hil]), fun h => (by cases h)⟩ hn ⟨by simp; omega, fun j hj => by rw [List.getElem?_set_ne (by omega)]; exact hp.get j hj⟩ (fun j b hne h => by rw [List.getElem?_set_ne (fun e => hne (by rw [e]))]; exact h) (fun j _ h => h)
    simpa [rowX, bRow] using this
theorem take_get {α : Type} {l : List α} {i : Nat} {x : α} (h : l[i]? = some x) : l.take (i + 1) = l.take i ++ [x] := by
  obtain ⟨hi, rfl⟩ := List.getElem?_eq_some_iff.1 h
  exact take_succ' hi
end Go.Proofs
namespace Go.Proofs
open Go.Mu
theorem Pre.set {M M' : List Blk} (a : Pre M M') {k : Nat} (h : M.length ≤ k) (X : Blk) : Pre M (M'.set k X) :=
  ⟨by simpa using a.len, fun i hi => by rw [List.getElem?_set_ne (by omega)]; exact a.get i hi⟩
theorem DIn.other {M : List Blk} {kc k : Nat} {h : Option Nat} {p : Pg} {f : Nat} {l : List Bool} {e g : Int} (hd : DIn M kc h p f l e g) (h1 : kc ≠ k) (h2 : h ≠ some k) (X : Blk) : DIn (M.set k X) kc h p f l e g :=
  ⟨by rw [get_set_ne (fun e => h1 e.symm)]; exact hd.box, hd.row.setK h2 X⟩
theorem renter_ok (p : Pg) (hp : RIn p) (f : Nat) (hf : f < p.funcs.length) (M : List Blk) :
    ACalls Tryz.prog 23 [.agg p.cells, I f] M (fun r M' => ∃ kc h, r = .ret (.bp kc 0) ∧ DIn M' kc h p f (atOf (fcAt p f) (enterT (fcAt p f))) 0 0 ∧ Pre M M' ∧ M.length ≤ kc ∧ New M.length h) := by
  refine acalls_of_vc (hn := fun d => d == 37 || d == 53) (od := fun _ => none) Tryz.func23 rfl (by kernel_rfl) ?_
  rw [at_enter (hp.fn f hf).nm]
  obtain ⟨hF, _⟩ := fcAt_get hf
  have hw := (hp.fn f hf).words
  obtain ⟨F, hFe⟩ : ∃ F, F = fcAt p f := ⟨_, rfl⟩
  rw [← hFe] at hF hw ⊢
  have hFc : (p.funcs.map Fc.cells)[f]? = some F.cells := by rw [List.getElem?_map, hF]; rfl
  simp only [Fc.cells] at hFc
  clear hFe
  obtain ⟨Q, hQ⟩ : ∃ Q : AE → List Blk → Prop, Q = fun r M' => ∃ kc h, r = .ret (.bp kc 0) ∧ DIn M' kc h p f (F.params.map (·.secret) ++ F.vars.map fun _ => false) 0 0 ∧ Pre M M' ∧ M.length ≤ kc ∧ New M.length h := ⟨_, rfl⟩
  rw [← hQ]
  obtain ⟨bP, hbP⟩ : ∃ bP, bP = Blk.box 25 p.cells := ⟨_, rfl⟩
  obtain ⟨bF, hbF⟩ : ∃ bF, bF = Blk.box 37 F.cells := ⟨_, rfl⟩
  obtain ⟨J, hJ⟩ : ∃ J : Option Nat → List Bool → List Blk → Prop, J = fun h l H' => DIn H' (M.length + 1) h p f l 0 0 ∧ Pre M H' ∧ H'[M.length + 2]? = some bF ∧ New M.length h := ⟨_, rfl⟩
  have hJe : ∀ h l H', J h l H' ↔ DIn H' (M.length + 1) h p f l 0 0 ∧ Pre M H' ∧ H'[M.length + 2]? = some bF ∧ New M.length h := fun h l H' => by rw [hJ]
  have j0 : J none [] (M ++ [bP, .box 64 [Rg.sl p.regions, Fc.sl p.funcs, I f, nilS, I 0, I 0], bF]) := by
    refine (hJe _ _ _).2 ⟨⟨?_, ⟨fun _ h => (by cases h), fun _ => rfl⟩⟩, .app _ _, by simp, fun _ h => (by cases h)⟩
    rw [List.getElem?_append_right (by omega)]
    simp [chkC, rowX]
  have jn : ∀ {h : Option Nat} {l : List Bool} {H' : List Blk} {h2 : Option Nat} {H2 : List Blk} {y : Bool}, J h l H' → BRow H2 h2 (l ++ [y]) → New M.length h2 → Pre M H2 → (∀ i b, h ≠ some i → H'[i]? = some b → H2[i]? = some b) →
      J h2 (l ++ [y]) (H2.set (M.length + 1) (.box 64 [Rg.sl p.regions, Fc.sl p.funcs, I f, rowX h2 (l.length + 1), I 0, I 0])) ∧ H2[M.length + 1]? = some (.box 64 [Rg.sl p.regions, Fc.sl p.funcs, I f, rowX h l.length, I 0, I 0]) := by
    intro h l H' h2 H2 y hj hr hn hpre hold
    obtain ⟨hd, hp', hbF', hn'⟩ := (hJe _ _ _).1 hj
    have hb2 := hold _ _ hd.ne hd.box
    have hf2 := hold _ _ (hd.row.ne_box (by rw [hbF', hbF])) hbF'
    refine ⟨(hJe _ _ _).2 ⟨⟨?_, hr.setK (hr.ne_box hb2) _⟩, hpre.set (by omega) _, by rw [get_set_ne (by omega)]; exact hf2, hn⟩, hb2⟩
    rw [get_set_eq hb2, List.length_append]
    rfl
  have j1 : ∀ {h l H'}, J h l H' → H'[M.length + 1]? = some (.box 64 [Rg.sl p.regions, Fc.sl p.funcs, I f, rowX h l.length, I 0, I 0]) := fun hj => ((hJe _ _ _).1 hj).1.box
  have j2 : ∀ {h l H'}, J h l H' → H'[M.length + 2]? = some (.box 37 [St F.name, Vr.sl F.params, Vr.sl F.vars, St.sl F.rets, Sm.sl F.body]) := fun hj => by rw [((hJe _ _ _).1 hj).2.2.1, hbF]; rfl
  have j3 : ∀ {h l H'}, J h l H' → BRow H' h l ∧ New M.length h ∧ Pre M H' := fun hj => ⟨((hJe _ _ _).1 hj).1.row, ((hJe _ _ _).1 hj).2.2.2, ((hJe _ _ _).1 hj).2.1⟩
  have j4 : ∀ {h l H'}, J h l H' → l = F.params.map (·.secret) ++ (F.vars.map fun _ => false) → Q (.ret (.bp (M.length + 1) 0)) H' := fun {h l H'} hj hl => by
    subst hl
    obtain ⟨a, b, c, d⟩ := (hJe _ _ _).1 hj
    rw [hQ]
    exact ⟨_, h, rfl, a, b, by omega, d⟩
  clear hJ hJe hQ
  simp only [hbP, hbF, Pg.cells, Fc.cells] at j0
  simp -dsimp [hFc]
  refine loop_rule (hn := fun d => d == 37 || d == 53) (od := fun _ => none) (fun (y : Nat × Option Nat) q H' => J y.2 ((F.params.map (·.secret)).take y.1) H' ∧ q 5 = .bp (M.length + 1) 0 ∧ q 6 = .bp (M.length + 2) 0 ∧ q 7 = I y.1 ∧ y.1 ≤ F.params.length) (fun y => F.params.length - y.1) (by kernel_rfl) (0, none) ⟨by simpa using j0, by simp, by simp, by simp, by simp⟩ ?_
  rintro ⟨i, h⟩ q H' ⟨hj, q5, q6, q7, hi⟩
  simp only at hj q7 hi
  replace hj := Hid.mk hj
  have hb := j1 hj.out
  have hb2 := j2 hj.out
  obtain ⟨lv, hlv⟩ : ∃ lv, lv = (F.params.map (·.secret)).take i := ⟨_, rfl⟩
  rw [← hlv] at hj hb
  have hll : lv.length = i := by rw [hlv]; simp; omega
  simp -dsimp [q5, q6, q7, hb, hb2]
  refine condVW_introD (fun hlt => ?_) (fun hlt => ?_)
  · have hlt' : i < F.params.length := by omega
    have hvx := List.getElem?_eq_getElem hlt'
    obtain ⟨v, hv⟩ : ∃ v, v = F.params[i] := ⟨_, rfl⟩
    rw [← hv] at hvx
    have htk : (F.params.map (·.secret)).take (i + 1) = lv ++ [v.secret] := by
      rw [take_get (x := v.secret) (by rw [List.getElem?_map, hvx]; rfl), hlv]
    clear hv hlv
    have w1 : IntKind.i64.wrap ((i : Int) + 1) = ((i + 1 : Nat) : Int) := wrapS (by omega)
    have hvc : (F.params.map Vr.cells)[i]? = some [St v.name, I v.kind, I v.size, Bo v.secret] := by rw [List.getElem?_map, hvx]; rfl
    obtain ⟨r1, r2, r3⟩ := j3 hj.out
    simp -dsimp [q5, q6, q7, hb, hb2, hvc]
    refine app_brow (ys := [v.secret]) r1 rfl r2 r3 rfl rfl (by decide) (by simp; omega) (fun h2 H2 hr2 hn2 hp2 ho2 _ => ?_)
    obtain ⟨jj, hbx⟩ := jn hj.out hr2 hn2 hp2 ho2
    rw [← htk] at jj
    simp -dsimp [q5, q6, q7, hbx]
    exact ⟨i + 1, by omega, ⟨h2, jj⟩, w1, by omega⟩
  · have hlv2 : lv = F.params.map (·.secret) := by rw [hlv]; exact List.take_of_length_le (by simp; omega)
    subst hlv2
    clear hlv hll hb hb2 j0
    simp -dsimp [q5, q6]
    refine loop_rule (hn := fun d => d == 37 || d == 53) (od := fun _ => none) (fun (y : Nat × Option Nat) q H' => J y.2 (F.params.map (·.secret) ++ (F.vars.map fun _ => false).take y.1) H' ∧ q 5 = .bp (M.length + 1) 0 ∧ q 6 = .bp (M.length + 2) 0 ∧ q 8 = I y.1 ∧ y.1 ≤ F.vars.length) (fun y => F.vars.length - y.1) (by kernel_rfl) (0, h) ⟨by simpa using hj.out, by simp [q5, q6], by simp [q5, q6], by simp [q5, q6], by simp⟩ ?_
    rintro ⟨i, h⟩ q H' ⟨hj, q5, q6, q8, hi⟩
    simp only at hj q8 hi
    replace hj := Hid.mk hj
    have hb := j1 hj.out
    have hb2 := j2 hj.out
    obtain ⟨lv, hlv⟩ : ∃ lv, lv = F.params.map (·.secret) ++ (F.vars.map fun _ => false).take i := ⟨_, rfl⟩
    rw [← hlv] at hj hb
    have hll : lv.length = F.params.length + i := by rw [hlv]; simp; omega
    simp -dsimp [q5, q6, q8, hb, hb2]
    refine condVW_introD (fun hlt => ?_) (fun hlt => ?_)
    · have hlt' : i < F.vars.length := by omega
      have hvx := List.getElem?_eq_getElem hlt'
      obtain ⟨v, hv⟩ : ∃ v, v = F.vars[i] := ⟨_, rfl⟩
      rw [← hv] at hvx
      have htk : F.params.map (·.secret) ++ (F.vars.map fun _ => false).take (i + 1) = lv ++ [false] := by
        rw [take_get (x := false) (by rw [List.getElem?_map, hvx]; rfl), hlv, List.append_assoc]
      clear hv hlv
      have w1 : IntKind.i64.wrap ((i : Int) + 1) = ((i + 1 : Nat) : Int) := wrapS (by omega)
      have hvc : (F.vars.map Vr.cells)[i]? = some [St v.name, I v.kind, I v.size, Bo v.secret] := by rw [List.getElem?_map, hvx]; rfl
      obtain ⟨r1, r2, r3⟩ := j3 hj.out
      simp -dsimp [q5, q6, q8, hb, hb2, hvc]
      refine app_brow (ys := [false]) r1 rfl r2 r3 rfl rfl (by decide) (by simp; omega) (fun h2 H2 hr2 hn2 hp2 ho2 _ => ?_)
      obtain ⟨jj, hbx⟩ := jn hj.out hr2 hn2 hp2 ho2
      rw [← htk] at jj
      simp -dsimp [q5, q6, q8, hbx]
      exact ⟨i + 1, by omega, ⟨h2, jj⟩, w1, by omega⟩
    · have hlv2 : lv = F.params.map (·.secret) ++ F.vars.map fun _ => false := by rw [hlv]; congr 1; exact List.take_of_length_le (by simp; omega)
      simp -dsimp [q5]
      exact j4 hj.out hlv2
end Go.Proofs
namespace Go.Proofs
open Go.Mu
theorem lacks_ok (p : Pg) (hp : p.Ok) (k : Nat) (hk : k < p.funcs.length) (nw : Int) (m : Nat) : ∀ (e : Ex), e.count ≤ m → e.count ≤ 2^40 → ∀ (M : List Blk),
    ACalls Tryz.prog 25 [.agg p.cells, I k, .agg e.cells, I nw] M (fun r M' => r = .ret (Bo (e.lacks p.regions (allV (fcAt p k)) nw)) ∧ M' = M) := by
  induction m with
  | zero => intro e he; rw [Ex.count_eq] at he; omega
  | succ m ih =>
    intro e he he40 M
    refine acalls_tidy (acalls_of_vc (hn := fun _ => false) (od := fun _ => none) Tryz.func25 rfl (by kernel_rfl) ?_)
    have hlen := exs_len e.args
    have hcnt := Ex.count_eq e
    obtain ⟨V, hV⟩ : ∃ V, V = M ++ [.box 25 [Rg.sl p.regions, Fc.sl p.funcs], .box 53 [I e.op, U e.word, St e.name, Ex.sl e.args]] := ⟨_, rfl⟩
    have v0 : ∀ L, (V ++ L)[M.length]? = some (.box 25 [Rg.sl p.regions, Fc.sl p.funcs]) := fun L => by rw [hV]; simp
    have v1 : ∀ L, (V ++ L)[M.length + 1]? = some (.box 53 [I e.op, U e.word, St e.name, Ex.sl e.args]) := fun L => by rw [hV]; simp
    have vA : ∀ L R, V ++ L ++ R = V ++ (L ++ R) := fun L R => List.append_assoc _ _ _
    obtain ⟨B, hB⟩ : ∃ B, B = e.lacks p.regions (allV (fcAt p k)) nw := ⟨_, rfl⟩
    rw [← hB]
    have fin : ∀ b L, b = B → Tidy M (fun r M' => r = .ret (Bo B) ∧ M' = M) (.ret (Bo b)) (V ++ L) := fun b L hb => by rw [hb, hV, List.append_assoc]; exact tidy_same rfl ⟨rfl, rfl⟩
    rw [Ex.lacks_eq] at hB
    have hVe : M ++ [Blk.box 25 [Rg.sl p.regions, Fc.sl p.funcs], .box 53 [I e.op, U e.word, St e.name, Ex.sl e.args]] = V ++ [] := by rw [hV]; simp
    clear hV
    have v0' := v0 []
    have v1' := v1 []
    simp -dsimp
    rw [hVe]
    by_cases h2 : e.op = 2
    · rw [if_pos h2] at hB
      have cf := fun H => find2_ok p k e.name hp hk H
      simp only [Pg.cells] at cf
      simp only [List.append_nil] at v0' v1'
      simp -dsimp [v0', v1', h2]
      refine acallsW_det (cf _) ?_
      simp -dsimp
      refine guardVW_introTE (fun q => ?_) (fun q q1 q2 => ?_)
      · simp -dsimp [q]
        have := fin (decide (nw ≤ ((findN p.regions (allV (fcAt p k)) e.name : Nat) : Int))) [] (by rw [hB, q]; simp)
        rw [List.append_nil] at this
        exact this
      · simp -dsimp [q1, q2]
        have := fin false [] (by rw [hB, decide_eq_false q]; rfl)
        rw [List.append_nil] at this
        exact this
    · rw [if_neg h2] at hB
      have h2b : (e.op == 2) = false := by simpa using h2
      simp only [List.append_nil] at v0' v1'
      simp -dsimp [v0', v1', h2b]
      refine loop_rule (hn := fun _ => false) (od := fun _ => none) (fun (i : Nat) q H' => (∃ L, H' = V ++ L) ∧ q 1 = I k ∧ q 3 = I nw ∧ q 4 = .bp M.length 0 ∧ q 6 = .bp (M.length + 1) 0 ∧ q 11 = I i ∧ i ≤ e.args.length ∧ exsLacks p.regions (allV (fcAt p k)) nw (e.args.drop i) = B) (fun i => e.args.length - i) (by kernel_rfl) 0
        ⟨⟨[], by simp⟩, by simp, by simp, by simp, by simp, by simp, by simp, by rw [List.drop_zero, hB]⟩ ?_
      rintro i q _ ⟨⟨L, rfl⟩, q1, q3, q4, q6, q11, hi, hinv⟩
      simp -dsimp [q1, q3, q4, q6, q11, v1]
      refine condVW_introD (fun hlt => ?_) (fun hlt => ?_)
      · have hlt' : i < e.args.length := by omega
        rw [drop_cons hlt', exsLacks] at hinv
        have hb := exs_parts e hlt'
        have hx := List.getElem?_eq_getElem hlt'
        obtain ⟨x, hxe⟩ : ∃ x, x = e.args[i] := ⟨_, rfl⟩
        rw [← hxe] at hinv hb hx
        clear hxe
        have hxc : (e.args.map Ex.cells)[i]? = some [I x.op, U x.word, St x.name, Ex.sl x.args] := by rw [List.getElem?_map, hx, Option.map_some, Ex.cells_eq]
        have c := fun H => ih x (by omega) (by omega) H
        simp only [Pg.cells, Ex.cells_eq] at c
        have w1 : IntKind.i64.wrap ((i : Int) + 1) = ((i + 1 : Nat) : Int) := wrapS (by omega)
        simp -dsimp [q1, q3, q4, q6, q11, v0, v1, hxc]
        refine callDW_intro (c _) ?_
        cases hl : x.lacks p.regions (allV (fcAt p k)) nw
        · rw [hl, Bool.false_or] at hinv
          simp -dsimp [q1, q3, q4, q6, q11]
          exact ⟨i + 1, by omega, w1, by omega, hinv⟩
        · rw [hl, Bool.true_or] at hinv
          simp -dsimp
          exact fin _ _ hinv
      · rw [drop_end (by omega), exsLacks] at hinv
        simp -dsimp
        exact fin _ _ hinv
structure XRow (t : TypeId) (sz : Nat) (M : List Blk) (h : Option Nat) (es : List (List AV)) : Prop where
  row : ∀ k, h = some k → M[k]? = some (.row t sz es)
  nil : h = none → es = []
theorem app_xrow {n : Nat} {t : TypeId} {sz : Nat} {M H : List Blk} {h : Option Nat} {es ys : List (List AV)} {sl : TypeId × Nat × List Value × Nat} {K : AV → List Blk → Prop} {w : Wit K} (hr : XRow t sz H h es) (hm : es.length = n) (hn : New M.length h) (hp : Pre M H) (h1 : sl.1 = t) (h2 : sl.2.1 = sz) (hs : sl.2.2.2 ≤ 64) (hb : es.length + ys.length ≤ 2^36)
    (k : ∀ h' H', XRow t sz H' h' (es ++ ys) → New M.length h' → Pre M H' → K (rowX h' (n + ys.length)) H') : appendVW H sl (rowX h n) ys K w := by
  obtain ⟨s1, s2, s3, s4⟩ := sl
  simp only at h1 h2 hs
  subst h1 h2 hm
  have hbd : (es.length + ys.length) * s4 ≤ 140737488355328 := by
    have : (es.length + ys.length) * s4 ≤ (es.length + ys.length) * 64 := Nat.mul_le_mul_left _ hs
    omega
  have hl := hp.len
  cases h with
  | none =>
    have := hr.nil rfl
    subst this
    simp only [List.length_nil, Nat.zero_add] at hbd
    simp only [rowX]
    refine appendVW_nil (by simpa using hbd) (by simp at hb ⊢; omega) (fun hy => ?_) (fun hy => ?_)
    · subst hy
      exact k none H ⟨fun _ h => (by cases h), fun _ => rfl⟩ hn hp
    · have := k (some H.length) (H ++ [.row s1 s2 ys]) ⟨fun k hk => (by cases hk; simp), fun h => (by cases h)⟩ (fun k hk => (by cases hk; exact hl)) (hp.trans (.app _ _))
      simpa [rowX] using this
  | some i =>
    have q3 := hr.row i rfl
    have hil := lt_of_get q3
    have q1 := hn i rfl
    simp only [rowX]
    refine appendVW_hs (es := es) q3 (by simp) (by simp) hbd (by omega) ?_
    have := k (some i) (H.set i (.row s1 s2 (es ++ ys))) ⟨fun k hk => (by cases hk; simp [hil]), fun h => (by cases h)⟩ hn ⟨by simp; omega, fun j hj => by rw [List.getElem?_set_ne (by omega)]; exact hp.get j hj⟩
    simpa [rowX] using this
def smP (e : Ex) : Pg := ⟨[], [⟨ByteArray.empty, [], [], [], [.mk 0 ByteArray.empty [] e exN [] 0 0 [] []]⟩]⟩
theorem smP_count (e : Ex) : sumB (smP e).funcs = e.count + 2 := by
  simp only [smP, sumB, smsCount, Sm.count, exN, Ex.count, exsCount, List.length_nil]; omega
theorem smP_ok2 {e : Ex} (he : e.count ≤ 2^30) : (smP e).Ok2 := by
  have hb : smsCount [Sm.mk 0 ByteArray.empty [] e exN [] 0 0 [] []] = e.count + 2 := by
    simp only [smsCount, Sm.count, exN, Ex.count, exsCount, List.length_nil]; omega
  have h0 : ByteArray.empty.size ≤ 2^40 := by decide
  refine ⟨⟨by simp [smP], by simp [smP], fun f hf => ?_, fun f hf => ?_, fun f hf => ?_, fun f hf => ?_⟩, ⟨fun r hr => (by simp [smP] at hr), fun f hf => ?_⟩, fun f hf => ?_⟩
  all_goals (rw [smP] at hf; obtain rfl := List.mem_singleton.1 hf)
  all_goals first | (simp only [hb]; omega) | simp
theorem may_ones {p : Pg} (hm : mayE p = 0) {k : Nat} (hk : k < p.funcs.length) : onesL (p.regions.map Rg.name) ((p.funcs[k].params ++ p.funcs[k].vars).map Vr.name) = 0 := by
  unfold mayE at hm
  obtain ⟨_, hm⟩ := thenE_0 hm
  obtain ⟨hn, _⟩ := thenE_0 hm
  rw [← namesL] at hn
  obtain ⟨_, hn⟩ := thenE_0 hn
  obtain ⟨_, n3⟩ := thenE_0 hn
  have := allE_0 n3 p.funcs[k] (List.getElem_mem hk)
  unfold nameL at this
  exact (thenE_0 this).1
end Go.Proofs
namespace Go.Proofs
open Go.Mu
theorem lenV_xrow {t : TypeId} {sz : Nat} {H : List Blk} {h : Option Nat} {es : List (List AV)} (hr : XRow t sz H h es) : lenV H 1 (rowX h es.length) = some (es.length : Int) := by
  cases h with
  | none => have := hr.nil rfl; subst this; rfl
  | some k => have q3 := hr.row k rfl; simp [rowX, q3]
theorem lvlM_no {p : Pg} (hm : mayE p ≠ 0) (f : Int) (e : Ex) (t : Tab) : lvlM p f e t = (false, mayE p) := by unfold lvlM; rw [if_pos hm]
theorem lvlM_out {p : Pg} (hm : mayE p = 0) {f : Int} (hf : f < 0 ∨ (p.funcs.length : Int) ≤ f) (e : Ex) (t : Tab) : lvlM p f e t = (false, 2) := by unfold lvlM; rw [if_neg (fun h => h hm), if_pos hf]
theorem lvlM_in {p : Pg} (hm : mayE p = 0) (hr : RIn p) {k : Nat} (hk : k < p.funcs.length) {e : Ex} (hz : sizeM (lvQ p k e) ≤ 65536) (ws : List Bool) (X : Int) (hX : X = e.chk (varsT (allV (fcAt p k))) (onesT (p.regions.map Rg.name) []) 1) :
    lvlM p k e (atL ((allV (fcAt p k)).zip ws)) = if X ≠ 0 then (false, X) else if e.lacks p.regions (allV (fcAt p k)) ws.length = true then (false, 2) else
      if (e.exM (atR ((allV (fcAt p k)).zip ws) (enterT (fcAt p k))) (arrT p.regions (fcAt p k))).2 = true then (false, 10) else ((e.exM (atR ((allV (fcAt p k)).zip ws) (enterT (fcAt p k))) (arrT p.regions (fcAt p k))).1, 0) := by
  unfold lvlM
  rw [if_neg (fun h => h hm), if_neg (by omega), Int.toNat_natCast, lv_may hm hk hz]
  show (if e.chk (varsT (allV (fcAt p k))) (onesT (p.regions.map Rg.name) []) 1 ≠ 0 then (false, e.chk (varsT (allV (fcAt p k))) (onesT (p.regions.map Rg.name) []) 1) else _) = _
  rw [← hX]
  by_cases hx : X = 0
  rotate_left
  · rw [if_pos hx, if_pos hx]
  rw [if_neg (show ¬ X ≠ 0 from fun h => h hx), if_neg (show ¬ X ≠ 0 from fun h => h hx)]
  rw [hx] at hX
  have hN := (hr.fn k hk).nm
  have h1 : exsNm (Keys (enterT (fcAt p k))) (Keys (arrT p.regions (fcAt p k))) [e] = true := by rw [exsNm, exsNm, Bool.and_true]; exact chk_ex hN.words e 1 hX.symm
  have h2 : exsAri [e] = true := chk_ari (tv := varsT (allV (fcAt p k))) (ta := onesT (p.regions.map Rg.name) []) _ [e] (Nat.le_refl _) 1 (by rw [exsChk, ← hX]; rfl)
  obtain ⟨h3, h4⟩ := has_lacks hN ws (enterT (fcAt p k)) (arrT p.regions (fcAt p k)) _ _ [e] (Nat.le_refl _) h1 h2
  rw [exsHas, exsHas, Bool.and_true, exsLacks, exsLacks, Bool.or_false] at h3
  rw [exsLacks, exsLacks, Bool.or_false, exsM, exsM, exsM, exsM] at h4
  simp only [Bool.or_false] at h4
  rw [h3]
  cases hl : e.lacks p.regions (allV (fcAt p k)) ws.length
  rotate_left
  · rfl
  have h5 := h4 hl
  obtain ⟨h6, h7⟩ := Prod.mk.inj h5
  rw [exM_lev, ← h6, ← h7]
  simp only [Bool.not_false, Bool.true_eq_false, if_false, Bool.false_eq_true]
  generalize e.exM (atR ((allV (fcAt p k)).zip ws) (enterT (fcAt p k))) (arrT p.regions (fcAt p k)) = q
  obtain ⟨s, b⟩ := q
  cases b <;> rfl
theorem set_pre {H M : List Blk} (h : ∃ L, M = H ++ L) {k : Nat} (hk : H.length ≤ k) (X : Blk) : ∃ L, M.set k X = H ++ L := by
  obtain ⟨L, rfl⟩ := h
  rw [List.set_append, if_neg (by omega)]
  exact ⟨_, rfl⟩
theorem pre_pre {H M M' : List Blk} (h : ∃ L, M = H ++ L) (hp : Pre M M') : ∃ L, M' = H ++ L := by
  obtain ⟨L, rfl⟩ := h
  refine ⟨M'.drop H.length, ?_⟩
  have hl := hp.len
  simp only [List.length_append] at hl
  apply List.ext_getElem?
  intro i
  by_cases hi : i < H.length
  · rw [List.getElem?_append_left hi, hp.get i (by simp; omega), List.getElem?_append_left hi]
  · rw [List.getElem?_append_right (by omega), List.getElem?_drop]; congr 1; omega
theorem sectypeLevels_ok (p : Pg) (hp : p.Ok3) (hpc : p.OkC) (f : Int) (e : Ex) (he : e.count ≤ 2^30) (ws : List Bool) (hws : ws.length ≤ 2^30) (H : List Blk) :
    ACalls Tryz.prog 4 [.agg p.cells, I f, .agg e.cells, boS ws] H (fun r H' => r = .ret (Bo true) ∧ H' = H) := by
  refine acalls_tidy (acalls_of_vc (hn := fun d => d == 88 || d == 91) (od := fun i => if i = 13 then some [(0, []), (1, []), (3, []), (4, []), (2, [3, 4]), (5, []), (6, [])] else none) Tryz.func4 rfl (by kernel_rfl) ?_)
  have fin : ∀ W, (∃ L, W = H ++ L) → Tidy H (fun r M' => r = .ret (Bo true) ∧ M' = H) (.ret (Bo true)) W := fun W ⟨L, hL⟩ => by rw [hL]; exact tidy_same rfl ⟨rfl, rfl⟩
  have cs := fun M => small_ok p hp.ok 1000 M
  have cs2 := fun M => small_ok (smP e) (smP_ok2 he) 1000 M
  have cmay := fun M => rmay_ok p hp M
  have ck := fun M => sknown_ok M
  obtain ⟨W0, hW0⟩ : ∃ W0, W0 = H ++ [.box 25 p.cells, .box 53 e.cells] := ⟨_, rfl⟩
  have a0 : W0[H.length]? = some (.box 25 p.cells) := by rw [hW0]; simp
  have a1 : W0[H.length + 1]? = some (.box 53 e.cells) := by rw [hW0]; simp
  have aM : ∃ L, W0 = H ++ L := ⟨_, hW0⟩
  have al : W0.length = H.length + 2 := by rw [hW0]; simp
  simp only [Pg.cells, Ex.cells_eq] at cs cmay hW0 a0 a1
  simp -dsimp
  rw [← hW0]
  clear hW0
  refine acallsW_det (cs _) ?_
  cases hs : smallB p 1000
  · simp -dsimp
    refine acallsW_det (ck _) ?_
    simp -dsimp
    exact fin _ aM
  simp -dsimp [a1]
  refine acallsW_det (acalls_weak (args' := [.agg (smP e).cells, I 1000]) (.cons (.aggL (.cons (.nil _) (.cons (.vsR (.cons (.cons (.refl _) (.cons (.nil _) (.cons (.nil _) (.cons (.nil _) (.cons (.vsR (.cons (by rw [Sm.cells_eq]; repeat first | exact Weak.refl _ | exact Weak.nil _ | exact WeakL.nil | exact WeakR.nil | apply Weak.aggL | apply Weak.vsR | apply WeakL.cons | apply WeakR.cons) .nil)) .nil))))) .nil)) .nil))) (.cons (.refl _) .nil)) (cs2 _)) ?_
  cases hs2 : smallB (smP e) 1000
  · simp -dsimp
    refine acallsW_det (ck _) ?_
    simp -dsimp
    exact fin _ aM
  have hsum := small_sum hs
  have hsum2 := small_sum hs2
  rw [smP_count] at hsum2
  have hez : ∀ k, sizeM (lvQ p k e) ≤ 65536 := fun k => lv_size (by omega) (by omega)
  clear hs hs2 hsum hsum2 cs cs2
  obtain ⟨W1, hW1⟩ : ∃ W1, W1 = W0 ++ [.map (tabM [])] := ⟨_, rfl⟩
  obtain ⟨kt, hkt⟩ : ∃ kt, kt = W0.length := ⟨_, rfl⟩
  have b0 : W1[H.length]? = some (.box 25 [Rg.sl p.regions, Fc.sl p.funcs]) := by rw [hW1]; exact get_app_old a0 _
  have b1 : W1[H.length + 1]? = some (.box 53 [I e.op, U e.word, St e.name, Ex.sl e.args]) := by rw [hW1]; exact get_app_old a1 _
  have bt : W1[kt]? = some (.map (tabM [])) := by rw [hW1, hkt]; simp
  have bM : ∃ L, W1 = H ++ L := by obtain ⟨L, hL⟩ := aM; rw [hW1, hL]; exact ⟨L ++ [.map (tabM [])], by simp⟩
  have bl : W1.length = kt + 1 := by rw [hW1, hkt]; simp
  have hkt2 : kt = H.length + 2 := by omega
  have cl := fun f t M hM => slevel_ok p hp.ok hpc f e he t M kt hM
  simp only [Pg.cells, Ex.cells_eq] at cl
  simp -dsimp
  rw [show W0 ++ [Blk.map []] = W1 from hW1.symm, ← hkt]
  clear hW1 hkt a0 a1 aM al
  simp -dsimp [b0]
  refine acallsW_det (cmay _) ?_
  by_cases hm : mayE p = 0
  rotate_left
  · have hne : (mayE p != 0) = true := by simpa using hm
    have c := cl f [] W1 bt
    rw [lvlM_no hm] at c
    simp -dsimp [hne, b0, b1]
    refine acallsW_det c ?_
    simp -dsimp
    refine acallsW_det (ck _) ?_
    simp -dsimp
    exact fin _ bM
  simp -dsimp [hm]
  refine guardVW_introFD (fun hlt => ?_) (fun hge => ?_)
  · have c := cl f [] W1 bt
    rw [lvlM_out hm (.inl hlt)] at c
    simp -dsimp [hlt, b0, b1]
    refine acallsW_det c ?_
    simp -dsimp
    refine acallsW_det (ck _) ?_
    simp -dsimp
    exact fin _ bM
  simp -dsimp [hge, b0]
  refine condVW_introD (fun hle => ?_) (fun hle => ?_)
  · have c := cl f [] W1 bt
    rw [lvlM_out hm (.inr hle)] at c
    simp -dsimp [hge, b0, b1]
    refine acallsW_det c ?_
    simp -dsimp
    refine acallsW_det (ck _) ?_
    simp -dsimp
    exact fin _ bM
  obtain ⟨k, rfl⟩ : ∃ k : Nat, f = k := ⟨f.toNat, by omega⟩
  have hk : k < p.funcs.length := by omega
  obtain ⟨hr, _⟩ := rIn_of hp.ok hm
  have cen := renter_ok p hr k hk W1
  simp only [Pg.cells] at cen
  obtain ⟨hFk, hFm⟩ := fcAt_get hk
  have hGn := hr.fn k hk
  have hGw := hGn.words
  simp -dsimp [b0]
  refine acallsW_of cen ?_
  rintro r M2 ⟨kc, h, rfl, hd2, hp2, hkc, hnew⟩
  have c0 := hp2.old b0
  have c1 := hp2.old b1
  have ct := hp2.old bt
  have cM := pre_pre bM hp2
  have cl2 := hp2.len
  have hFc : (p.funcs.map Fc.cells)[k]? = some [St (fcAt p k).name, Vr.sl (fcAt p k).params, Vr.sl (fcAt p k).vars, St.sl (fcAt p k).rets, Sm.sl (fcAt p k).body] := by rw [List.getElem?_map, hFk]; rfl
  obtain ⟨F, hF⟩ : ∃ F, F = fcAt p k := ⟨_, rfl⟩
  rw [← hF] at hFc hGw
  obtain ⟨M3, hM3⟩ : ∃ M3, M3 = M2 ++ [.box 37 [St F.name, Vr.sl F.params, Vr.sl F.vars, St.sl F.rets, Sm.sl F.body]] := ⟨_, rfl⟩
  have hp3 : Pre M2 M3 := by rw [hM3]; exact .app _ _
  have hg3 : M3[M2.length]? = some (.box 37 [St F.name, Vr.sl F.params, Vr.sl F.vars, St.sl F.rets, Sm.sl F.body]) := by rw [hM3]; simp
  simp -dsimp [c0, hFc]
  rw [← hM3]
  clear hM3 cen
  have nil0 : XRow 67 4 M3 none [] := ⟨fun _ h => (by cases h), fun _ => rfl⟩
  refine app_xrow (h := none) (n := 0) (es := []) (M := M3) (ys := F.params.map Vr.cells) nil0 rfl (fun _ h => (by cases h)) (.refl _) rfl rfl (by decide) (by simp; omega) (fun h1 M4 hr4 hn4 hp4 => ?_)
  rw [List.nil_append] at hr4
  have hg4 := hp4.old hg3
  simp -dsimp [hg4]
  refine app_xrow (h := h1) (n := F.params.length) (M := M3) (ys := F.vars.map Vr.cells) hr4 (by simp) hn4 hp4 rfl rfl (by decide) (by simp; omega) (fun h2 M5 hr5 hn5 hp5 => ?_)
  rw [← List.map_append] at hr5
  have hp25 := hp3.trans hp5
  have d0 := hp25.old c0
  have d1 := hp25.old c1
  have dt := hp25.old ct
  have dM := pre_pre cM hp25
  have hd5 := hp25.din hd2
  clear hp5 hp4 hr4 hn4 hg4 hg3 nil0
  obtain ⟨vs, hvs⟩ : ∃ vs, vs = F.params ++ F.vars := ⟨_, rfl⟩
  have hvl : F.params.length + (F.vars.map Vr.cells).length = (vs.map Vr.cells).length := by rw [hvs]; simp
  rw [hvl]
  rw [← hvs] at hr5
  have hvsl : vs.length ≤ 64 := by rw [hvs]; simp; omega
  have hvF : allV (fcAt p k) = vs := by rw [← hF, hvs]
  have hnd : (vs.map Vr.name).Nodup := by rw [← hvF]; exact hGn.nm.nd
  obtain ⟨z, hz⟩ : ∃ z, z = vs.zip ws := ⟨_, rfl⟩
  have hzl : z.length = min vs.length ws.length := by rw [hz]; simp
  have hat : ∀ (i : Nat) v b, vs[i]? = some v → ws[i]? = some b → z.take (i + 1) = z.take i ++ [(v, b)] := fun i v b h1 h2 => take_getZ (by rw [hz]; exact (List.getElem?_zip_eq_some (z := (v, b))).2 ⟨h1, h2⟩)
  have hAl : ∀ t, (atOf (fcAt p k) t).length = vs.length := fun t => by rw [at_len, hvF]
  have hAs : ∀ (i : Nat) v b t, vs[i]? = some v → (atOf (fcAt p k) t).set i b = atOf (fcAt p k) (aset v.name b t) := fun i v b t hv => (at_set (F := fcAt p k) hGn.nm.nd (by rw [hvF]; exact hv) b t).symm
  have hkg : ∀ i, h = some i → H.length ≤ i := fun i hi => by have := hnew i hi; omega
  obtain ⟨T, hT⟩ : ∃ T : Nat → Tab, T = fun i => atR (z.take i) (enterT (fcAt p k)) := ⟨_, rfl⟩
  have hTe : ∀ i, T i = atR (z.take i) (enterT (fcAt p k)) := fun i => by rw [hT]
  clear hT
  obtain ⟨J, hJ⟩ : ∃ J : Nat → List Blk → Prop, J = fun i X => i ≤ z.length ∧ DIn X kc h p k (atOf (fcAt p k) (T i)) 0 0 ∧ X[kt]? = some (.map (tabM (atL (z.take i)))) ∧ XRow 67 4 X h2 (vs.map Vr.cells) ∧ X[H.length]? = some (.box 25 [Rg.sl p.regions, Fc.sl p.funcs]) ∧ X[H.length + 1]? = some (.box 53 [I e.op, U e.word, St e.name, Ex.sl e.args]) ∧ (∃ L, X = H ++ L) := ⟨_, rfl⟩
  have hJe : ∀ i X, J i X ↔ i ≤ z.length ∧ DIn X kc h p k (atOf (fcAt p k) (T i)) 0 0 ∧ X[kt]? = some (.map (tabM (atL (z.take i)))) ∧ XRow 67 4 X h2 (vs.map Vr.cells) ∧ X[H.length]? = some (.box 25 [Rg.sl p.regions, Fc.sl p.funcs]) ∧ X[H.length + 1]? = some (.box 53 [I e.op, U e.word, St e.name, Ex.sl e.args]) ∧ (∃ L, X = H ++ L) := fun i X => by rw [hJ]
  clear hJ
  have j0 : J 0 M5 := (hJe _ _).2 ⟨by omega, by rw [hTe]; exact hd5, dt, hr5, d0, d1, dM⟩
  clear hr5 hd5 d0 d1 dt dM hd2 c0 c1 ct cM
  simp -dsimp
  refine loop_rule (hn := fun d => d == 88 || d == 91) (od := fun i => if i = 13 then some [(0, []), (1, []), (3, []), (4, []), (2, [3, 4]), (5, []), (6, [])] else none) (fun (i : Nat) q X => J i X ∧ q 1 = I k ∧ q 3 = boS ws ∧ q 4 = .bp H.length 0 ∧ q 6 = .bp (H.length + 1) 0 ∧ q 9 = .hm kt ∧ q 15 = .bp kc 0 ∧ q 17 = rowX h2 vs.length ∧ q 18 = I i) (fun i => z.length - i) (by kernel_rfl) 0
    ⟨j0, by simp, by simp, by simp, by simp, by simp, by simp, by simp, by simp⟩ ?_
  clear j0
  rintro i q X ⟨hj, q1, q3, q4, q6, q9, q15, q17, q18⟩
  obtain ⟨hi, hd, ht, hx, g0, g1, gM⟩ := (hJe _ _).1 hj
  have hlv : lenV X 1 (rowX h2 vs.length) = some (vs.length : Int) := by have := lenV_xrow hx; rw [List.length_map] at this; exact this
  by_cases hiz : i < z.length
  · have h1 : (i : Int) < vs.length := by omega
    have h2' : (i : Int) < ws.length := by omega
    have hvx := List.getElem?_eq_getElem (show i < vs.length by omega)
    have hwx := List.getElem?_eq_getElem (show i < ws.length by omega)
    obtain ⟨v, hv⟩ : ∃ v, v = vs[i]'(by omega) := ⟨_, rfl⟩
    obtain ⟨b, hb⟩ : ∃ b, b = ws[i]'(by omega) := ⟨_, rfl⟩
    rw [← hv] at hvx
    rw [← hb] at hwx
    clear hv hb
    have hvc : (vs.map Vr.cells)[i]? = some [St v.name, I v.kind, I v.size, Bo v.secret] := by rw [List.getElem?_map, hvx]; rfl
    have hwc : (ws.map fun b => [Bo b])[i]? = some [Bo b] := by rw [List.getElem?_map, hwx]; rfl
    have htk := hat i v b hvx hwx
    have w1 : IntKind.i64.wrap ((i : Int) + 1) = ((i + 1 : Nat) : Int) := wrapS (by omega)
    have hb0 := hd.box
    simp only [chkB, chkC] at hb0
    have hil : i < (atOf (fcAt p k) (T i)).length := by rw [hAl]; omega
    cases h with
    | none => have := hd.row.nil rfl; rw [this] at hil; simp at hil
    | some kr =>
    cases h2 with
    | none => have := hx.nil rfl; simp at this; rw [this] at hvx; simp at hvx
    | some ka =>
    have hro := hd.row.row kr rfl
    have hst := astore_bool hro hil b
    have hxr := hx.row ka rfl
    have hkra : kr ≠ ka := fun e => by
      rw [e] at hro
      have := hro.symm.trans hxr
      simp [bRow] at this
    have hkrt : kr ≠ kt := fun e => by rw [e] at hro; have := hro.symm.trans ht; simp [bRow] at this
    have hkrH := hkg kr rfl
    have hd1 := hd.setL rfl (l' := (atOf (fcAt p k) (T i)).set i b) (by simp)
    rw [hAs i v b _ hvx] at hd1 hst
    have hTs : T (i + 1) = aset v.name b (T i) := by rw [hTe, hTe, htk, atR_snoc]
    rw [← hTs] at hd1 hst
    obtain ⟨X1, hX1⟩ : ∃ X1, X1 = X.set kr (bRow (atOf (fcAt p k) (T (i + 1)))) := ⟨_, rfl⟩
    rw [← hX1] at hd1 hst
    have ht1 : X1[kt]? = some (.map (tabM (atL (z.take i)))) := by rw [hX1, get_set_ne hkrt]; exact ht
    have hx1 : X1[ka]? = some (.row 67 4 (vs.map Vr.cells)) := by rw [hX1, get_set_ne hkra]; exact hxr
    have k0 : X1[H.length]? = some (.box 25 [Rg.sl p.regions, Fc.sl p.funcs]) := by
      rw [hX1, get_set_ne (fun e => by rw [e] at hro; have := hro.symm.trans g0; simp [bRow] at this)]; exact g0
    have k1 : X1[H.length + 1]? = some (.box 53 [I e.op, U e.word, St e.name, Ex.sl e.args]) := by
      rw [hX1, get_set_ne (fun e => by rw [e] at hro; have := hro.symm.trans g1; simp [bRow] at this)]; exact g1
    have kM : ∃ L, X1 = H ++ L := by rw [hX1]; exact set_pre gM hkrH _
    simp only [bRow] at hro
    have hb0' := hb0
    simp only [rowX] at hb0' hlv q17
    simp -dsimp [q1, q3, q4, q6, q9, q15, q17, q18, hlv, h1, h2', hb0', hro, hwx]
    refine ⟨hil, ?_⟩
    simp -dsimp [q1, q3, q4, q6, q9, q15, q17, q18, hb0', hro, hwx, hst, hx1]
    have hiv : i < vs.length := by omega
    refine ⟨hiv, ?_⟩
    have hms := mset_str BoA v.name b (atL (z.take i))
    simp -dsimp [q1, q3, q4, q6, q9, q15, q17, q18, hx1, hvc]
    have htl := atL_snoc (z.take i) v b
    rw [← htk] at htl
    refine condVW_introE (fun hk1 => ?_) (fun hk1 _ _ => ?_)
    · rw [if_pos hk1] at htl
      obtain ⟨X2, hX2⟩ : ∃ X2, X2 = X1.set kt (.map (tabM (aset v.name b (atL (z.take i))))) := ⟨_, rfl⟩
      have hkta : ka ≠ kt := fun e => by rw [e] at hx1; have := hx1.symm.trans ht1; simp at this
      have hktc : kc ≠ kt := by omega
      have hj2 : J (i + 1) X2 := by
        refine (hJe _ _).2 ⟨by omega, ?_, ?_, ⟨fun k' hk' => ?_, fun h => (by cases h)⟩, ?_, ?_, ?_⟩
        · rw [hX2]; exact hd1.other hktc (fun e => hkrt (Option.some.inj e)) _
        · rw [hX2, get_set_eq ht1, htl]
        · cases hk'; rw [hX2, get_set_ne (fun e => hkta e.symm)]; exact hx1
        · rw [hX2, get_set_ne (by omega)]; exact k0
        · rw [hX2, get_set_ne (by omega)]; exact k1
        · rw [hX2]; exact set_pre kM (by omega) _
      simp -dsimp [q1, q3, q4, q6, q9, q15, q17, q18, hx1, hvc]
      refine ⟨hiv, ?_⟩
      simp -dsimp [q1, q3, q4, q6, q9, q15, q17, q18, hx1, hvc, hwx, ht1, hms]
      rw [← hX2]
      exact ⟨i + 1, by omega, hj2, rfl, w1⟩
    · rw [if_neg hk1] at htl
      have hj2 : J (i + 1) X1 := (hJe _ _).2 ⟨by omega, hd1, by rw [htl]; exact ht1, ⟨fun k' hk' => (by cases hk'; exact hx1), fun h => (by cases h)⟩, k0, k1, kM⟩
      simp -dsimp [q1, q3, q4, q6, q9, q15, q17, q18]
      exact ⟨i + 1, by omega, hj2, rfl, w1⟩
  · obtain rfl : i = z.length := by omega
    have hTz : T z.length = atR ((allV (fcAt p k)).zip ws) (enterT (fcAt p k)) := by rw [hTe, List.take_length, hz, hvF]
    have hLz : atL (z.take z.length) = atL ((allV (fcAt p k)).zip ws) := by rw [List.take_length, hz, hvF]
    rw [hTz] at hd
    rw [hLz] at ht
    obtain ⟨Xk, hXk⟩ : ∃ Xk, Xk = e.chk (varsT (allV (fcAt p k))) (onesT (p.regions.map Rg.name) []) 1 := ⟨_, rfl⟩
    have hlvl := lvlM_in hm hr hk (hez k) ws Xk hXk
    have c := cl k _ X ht
    have hFe : fcAt p k = p.funcs[k] := by rw [fcAt, List.getElem?_eq_getElem hk]; rfl
    have hNA := names_at p k hk (may_ones hm hk)
    have cx := fun M => rexpr_ok p k hp.ok.ok hk _ _ hNA _ e 1 (Nat.le_refl _) (by omega) (by decide) M
    rw [← hFe] at cx
    have cx : ∀ M, ACalls Tryz.prog 24 [.agg p.cells, I k, .agg e.cells, I 1] M (fun x H' => x = .ret (I Xk) ∧ H' = M) := fun M => by rw [hXk]; exact cx M
    have clk := fun M => lacks_ok p hp.ok.ok k hk (ws.length : Int) _ e (Nat.le_refl _) (by omega) M
    simp only [Pg.cells, Ex.cells_eq] at cx clk
    rw [hlvl] at c
    by_cases hX0 : Xk = 0
    rotate_left
    · have hne : (Xk != 0) = true := by simpa using hX0
      rw [if_pos hX0] at c
      by_cases h1 : (z.length : Int) < vs.length
      · have h2n : ¬ ((z.length : Int) < ws.length) := by omega
        simp -dsimp [q1, q3, q4, q6, q9, q15, q17, q18, hlv, h1, h2n, g0, g1]
        refine acallsW_det c ?_
        simp -dsimp [q1, q3, q4, q6, q9, q15, q17, q18, hlv, g0, g1]
        refine acallsW_det (cx _) ?_
        simp -dsimp [hne]
        refine acallsW_det (ck _) ?_
        simp -dsimp
        exact fin _ gM
      · simp -dsimp [q1, q3, q4, q6, q9, q15, q17, q18, hlv, h1, g0, g1]
        refine acallsW_det c ?_
        simp -dsimp [q1, q3, q4, q6, q9, q15, q17, q18, hlv, g0, g1]
        refine acallsW_det (cx _) ?_
        simp -dsimp [hne]
        refine acallsW_det (ck _) ?_
        simp -dsimp
        exact fin _ gM
    rw [if_neg (show ¬ Xk ≠ 0 from fun h => h hX0)] at c
    cases hl : e.lacks p.regions (allV (fcAt p k)) ws.length
    rotate_left
    · rw [if_pos hl] at c
      by_cases h1 : (z.length : Int) < vs.length
      · have h2n : ¬ ((z.length : Int) < ws.length) := by omega
        simp -dsimp [q1, q3, q4, q6, q9, q15, q17, q18, hlv, h1, h2n, g0, g1]
        refine acallsW_det c ?_
        simp -dsimp [q1, q3, q4, q6, q9, q15, q17, q18, hlv, g0, g1]
        refine acallsW_det (cx _) ?_
        simp -dsimp [hX0, q1, q3, q4, q6, q9, q15, q17, q18, hlv, g0, g1]
        refine acallsW_det (clk _) ?_
        rw [hl]
        simp -dsimp
        refine acallsW_det (ck _) ?_
        simp -dsimp
        exact fin _ gM
      · simp -dsimp [q1, q3, q4, q6, q9, q15, q17, q18, hlv, h1, g0, g1]
        refine acallsW_det c ?_
        simp -dsimp [q1, q3, q4, q6, q9, q15, q17, q18, hlv, g0, g1]
        refine acallsW_det (cx _) ?_
        simp -dsimp [hX0, q1, q3, q4, q6, q9, q15, q17, q18, hlv, g0, g1]
        refine acallsW_det (clk _) ?_
        rw [hl]
        simp -dsimp
        refine acallsW_det (ck _) ?_
        simp -dsimp
        exact fin _ gM
    rw [if_neg (by rw [hl]; decide)] at c
    have hnm : e.nm (Keys (enterT (fcAt p k))) (Keys (arrT p.regions (fcAt p k))) = true := chk_ex hGn.nm.words e 1 (by rw [← hX0, hXk])
    have ced := dexpr_ok p hr k hk _ _ e (Nat.le_refl _) (by omega) hnm hd
    obtain ⟨sv, bad, hsb⟩ : ∃ sv bad, e.exM (atR ((allV (fcAt p k)).zip ws) (enterT (fcAt p k))) (arrT p.regions (fcAt p k)) = (sv, bad) := ⟨_, _, rfl⟩
    rw [hsb] at c ced
    simp only [Ex.cells_eq] at ced
    simp only at c ced
    have hbe : binE Tryz.prog .eql 4 (Bo sv) (Bo sv) = some (Bo true) := by cases sv <;> kernel_rfl
    cases bad
    · simp only [Bool.false_eq_true, if_false] at c
      rw [failE_no] at ced
      by_cases h1 : (z.length : Int) < vs.length
      · have h2n : ¬ ((z.length : Int) < ws.length) := by omega
        simp -dsimp [q1, q3, q4, q6, q9, q15, q17, q18, hlv, h1, h2n, g0, g1]
        refine acallsW_det c ?_
        simp -dsimp [q1, q3, q4, q6, q9, q15, q17, q18, hlv, g0, g1]
        refine acallsW_det (cx _) ?_
        simp -dsimp [hX0, q1, q3, q4, q6, q9, q15, q17, q18, hlv, g0, g1]
        refine acallsW_det (clk _) ?_
        rw [hl]
        simp -dsimp [q1, q3, q4, q6, q9, q15, q17, q18, hlv, g0, g1]
        refine acallsW_of ced ?_
        rintro r X2 ⟨rfl, L2, hX2⟩
        have m0 : X2[kc]? = some (.box 64 [Rg.sl p.regions, Fc.sl p.funcs, I k, rowX h (atOf (fcAt p k) (atR ((allV (fcAt p k)).zip ws) (enterT (fcAt p k)))).length, I 0, I 0]) := by rw [hX2]; exact get_app_old (get_set_eq hd.box) _
        have mM : ∃ L, X2 = H ++ L := by
          obtain ⟨L, hL⟩ := set_pre gM (show H.length ≤ kc by omega) (chkB p k (rowX h (atOf (fcAt p k) (atR ((allV (fcAt p k)).zip ws) (enterT (fcAt p k)))).length) 0 0)
          exact ⟨L ++ L2, by rw [hX2]; simp only [hL, List.append_assoc]⟩
        simp -dsimp [q1, q3, q4, q6, q9, q15, q17, q18, hlv, m0, hbe]
        refine acallsW_det (ck _) ?_
        simp -dsimp
        exact fin _ mM
      · simp -dsimp [q1, q3, q4, q6, q9, q15, q17, q18, hlv, h1, g0, g1]
        refine acallsW_det c ?_
        simp -dsimp [q1, q3, q4, q6, q9, q15, q17, q18, hlv, g0, g1]
        refine acallsW_det (cx _) ?_
        simp -dsimp [hX0, q1, q3, q4, q6, q9, q15, q17, q18, hlv, g0, g1]
        refine acallsW_det (clk _) ?_
        rw [hl]
        simp -dsimp [q1, q3, q4, q6, q9, q15, q17, q18, hlv, g0, g1]
        refine acallsW_of ced ?_
        rintro r X2 ⟨rfl, L2, hX2⟩
        have m0 : X2[kc]? = some (.box 64 [Rg.sl p.regions, Fc.sl p.funcs, I k, rowX h (atOf (fcAt p k) (atR ((allV (fcAt p k)).zip ws) (enterT (fcAt p k)))).length, I 0, I 0]) := by rw [hX2]; exact get_app_old (get_set_eq hd.box) _
        have mM : ∃ L, X2 = H ++ L := by
          obtain ⟨L, hL⟩ := set_pre gM (show H.length ≤ kc by omega) (chkB p k (rowX h (atOf (fcAt p k) (atR ((allV (fcAt p k)).zip ws) (enterT (fcAt p k)))).length) 0 0)
          exact ⟨L ++ L2, by rw [hX2]; simp only [hL, List.append_assoc]⟩
        simp -dsimp [q1, q3, q4, q6, q9, q15, q17, q18, hlv, m0, hbe]
        refine acallsW_det (ck _) ?_
        simp -dsimp
        exact fin _ mM
    · simp only [if_true] at c
      rw [show failE true 0 = 10 from rfl] at ced
      by_cases h1 : (z.length : Int) < vs.length
      · have h2n : ¬ ((z.length : Int) < ws.length) := by omega
        simp -dsimp [q1, q3, q4, q6, q9, q15, q17, q18, hlv, h1, h2n, g0, g1]
        refine acallsW_det c ?_
        simp -dsimp [q1, q3, q4, q6, q9, q15, q17, q18, hlv, g0, g1]
        refine acallsW_det (cx _) ?_
        simp -dsimp [hX0, q1, q3, q4, q6, q9, q15, q17, q18, hlv, g0, g1]
        refine acallsW_det (clk _) ?_
        rw [hl]
        simp -dsimp [q1, q3, q4, q6, q9, q15, q17, q18, hlv, g0, g1]
        refine acallsW_of ced ?_
        rintro r X2 ⟨rfl, L2, hX2⟩
        have m0 : X2[kc]? = some (.box 64 [Rg.sl p.regions, Fc.sl p.funcs, I k, rowX h (atOf (fcAt p k) (atR ((allV (fcAt p k)).zip ws) (enterT (fcAt p k)))).length, I 10, I 0]) := by rw [hX2]; exact get_app_old (get_set_eq hd.box) _
        have mM : ∃ L, X2 = H ++ L := by
          obtain ⟨L, hL⟩ := set_pre gM (show H.length ≤ kc by omega) (chkB p k (rowX h (atOf (fcAt p k) (atR ((allV (fcAt p k)).zip ws) (enterT (fcAt p k)))).length) 10 0)
          exact ⟨L ++ L2, by rw [hX2]; simp only [hL, List.append_assoc]⟩
        simp -dsimp [q1, q3, q4, q6, q9, q15, q17, q18, hlv, m0]
        refine acallsW_det (ck _) ?_
        simp -dsimp
        exact fin _ mM
      · simp -dsimp [q1, q3, q4, q6, q9, q15, q17, q18, hlv, h1, g0, g1]
        refine acallsW_det c ?_
        simp -dsimp [q1, q3, q4, q6, q9, q15, q17, q18, hlv, g0, g1]
        refine acallsW_det (cx _) ?_
        simp -dsimp [hX0, q1, q3, q4, q6, q9, q15, q17, q18, hlv, g0, g1]
        refine acallsW_det (clk _) ?_
        rw [hl]
        simp -dsimp [q1, q3, q4, q6, q9, q15, q17, q18, hlv, g0, g1]
        refine acallsW_of ced ?_
        rintro r X2 ⟨rfl, L2, hX2⟩
        have m0 : X2[kc]? = some (.box 64 [Rg.sl p.regions, Fc.sl p.funcs, I k, rowX h (atOf (fcAt p k) (atR ((allV (fcAt p k)).zip ws) (enterT (fcAt p k)))).length, I 10, I 0]) := by rw [hX2]; exact get_app_old (get_set_eq hd.box) _
        have mM : ∃ L, X2 = H ++ L := by
          obtain ⟨L, hL⟩ := set_pre gM (show H.length ≤ kc by omega) (chkB p k (rowX h (atOf (fcAt p k) (atR ((allV (fcAt p k)).zip ws) (enterT (fcAt p k)))).length) 10 0)
          exact ⟨L ++ L2, by rw [hX2]; simp only [hL, List.append_assoc]⟩
        simp -dsimp [q1, q3, q4, q6, q9, q15, q17, q18, hlv, m0]
        refine acallsW_det (ck _) ?_
        simp -dsimp
        exact fin _ mM
end Go.Proofs
