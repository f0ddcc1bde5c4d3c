/- The document's layer 9: an expression's level. -/
import Derived.Test.YtihlekehnihnpaaSX2toSY4
set_option linter.unusedVariables false
set_option linter.unusedSimpArgs false
set_option maxHeartbeats 4000000
set_option maxRecDepth 100000
namespace Go.Proofs
open Go.Mu
def ExQ (M : List Blk) (kc : Nat) (p : Pg) (f : Nat) (X : AV) (g : Int) (s : Bool) (e : Int) : AE → List Blk → Prop := fun r M' => r = .ret (Bo s) ∧ ∃ L, M' = M.set kc (chkB p f X e g) ++ L
theorem dexpr_ok (p : Pg) (hp : RIn p) (f : Nat) (hf : f < p.funcs.length) (t : Tab) (n : Nat) : ∀ (x : Ex), x.count ≤ n → x.count ≤ 2^40 → x.nm (Keys (enterT (fcAt p f))) (Keys (arrT p.regions (fcAt p f))) = true → ∀ {M : List Blk} {kc : Nat} {h : Option Nat} {e g : Int}, DIn M kc h p f (atOf (fcAt p f) t) e g →
    ACalls Try.prog 97 [.bp kc 0, .agg x.cells] M (ExQ M kc p f (rowX h (atOf (fcAt p f) t).length) g (x.exM t (arrT p.regions (fcAt p f))).1 (failE (x.exM t (arrT p.regions (fcAt p f))).2 e)) := by
  induction n with
  | zero => intro x he; rw [Ex.count_eq] at he; omega
  | succ n ih =>
    intro x he he40 hnm M kc h e g hd
    refine acalls_of_vc (hn := fun _ => false) (od := fun _ => none) Try.func97 rfl (by kernel_rfl) ?_
    obtain ⟨ar, har⟩ : ∃ ar, ar = arrT p.regions (fcAt p f) := ⟨_, rfl⟩
    obtain ⟨A, hA⟩ : ∃ A, A = atOf (fcAt p f) t := ⟨_, rfl⟩
    have hAl : A.length ≤ 64 := by rw [hA, at_len]; have := (hp.fn f hf).words; simpa [allV] using this
    have cf := fun n H => find2_ok p f n hp.ok hf H
    simp only [Pg.cells] at cf
    have hfw := fun n hn => findN_word (p := p) (k := f) hp hf (n := n) hn
    have hag := fun i v hv => at_get (F := fcAt p f) (t := t) (i := i) (v := v) hv
    have carr := fun n hn (M : List Blk) (l : List Bool) (e : Int) (hd : DIn M kc h p f l e g) => rarr_ok hp hf hd n hn
    rw [nm_iff] at hnm
    obtain ⟨n1, n2, n3⟩ := hnm
    have ih := fun (x : Ex) h1 h2 h3 M e hd => ih x h1 h2 h3 (M := M) (kc := kc) (h := h) (e := e) (g := g) hd
    rw [← har] at n2 n3 ih carr ⊢
    rw [← hA] at hd ih hag ⊢
    obtain ⟨K, hK⟩ : ∃ K, K = Keys (enterT (fcAt p f)) := ⟨_, rfl⟩
    rw [← hK] at n1 n3 ih hfw
    obtain ⟨vs, hvs⟩ : ∃ vs, vs = allV (fcAt p f) := ⟨_, rfl⟩
    rw [← hvs] at hag cf hfw
    clear hA har hK hvs
    obtain ⟨X, hX⟩ : ∃ X, X = rowX h A.length := ⟨_, rfl⟩
    obtain ⟨bE, hbE⟩ : ∃ bE, bE = Blk.box 69 x.cells := ⟨_, rfl⟩
    obtain ⟨V, hV⟩ : ∃ V : Int → List Blk → List Blk, V = fun e L => M.set kc (chkB p f X e g) ++ bE :: L := ⟨_, rfl⟩
    have hVe : ∀ e L, V e L = M.set kc (chkB p f X e g) ++ bE :: L := fun e L => by rw [hV]
    have hkl := lt_of_get hd.box
    have hD : ∀ e L, DIn (V e L) kc h p f A e g := fun e L => by rw [hVe, hX]; exact (hd.setE e g).app _
    have vg : ∀ e L, (V e L)[kc]? = some (.box 119 [Rg.sl p.regions, Fc.sl p.funcs, I f, X, I e, I g]) := fun e L => by rw [hVe]; exact s1_get hkl _ _
    have vs' : ∀ e e' L, (V e L).set kc (chkB p f X e' g) = V e' L := fun e e' L => by rw [hVe, hVe]; exact s1_set hkl _ _ _
    have vA : ∀ e L R, V e L ++ R = V e (L ++ R) := fun e L R => by rw [hVe, hVe]; simp
    have v0 : ∀ e L, (V e L)[M.length]? = some (.box 69 [I x.op, U x.word, St x.name, Ex.sl x.args]) := fun e L => by rw [hVe, hbE, Ex.cells_eq]; simp
    have g0 : M ++ [Blk.box 69 [I x.op, U x.word, St x.name, Ex.sl x.args]] = V e [] := by rw [hVe, hbE, Ex.cells_eq, hX, s1_same hd.box]
    obtain ⟨sB, bB, hsb⟩ : ∃ s b, x.exM t ar = (s, b) := ⟨_, _, rfl⟩
    rw [hsb]
    simp only
    have fin : ∀ s e' L, s = sB → e' = failE bB e → ExQ M kc p f (rowX h A.length) g sB (failE bB e) (.ret (Bo s)) (V e' L) := fun s e' L h1 h2 => by
      rw [h1, h2, hVe, hX]; exact ⟨rfl, _, rfl⟩
    rw [Ex.exM_eq] at hsb
    have hlen := exs_len x.args
    have hcnt := Ex.count_eq x
    have hb2 : ∀ i (hi : i < x.args.length), x.args[i].count < x.count := fun i hi => exs_parts x hi
    clear hV hbE
    rw [← hX]
    rw [← hX] at fin ih
    simp -dsimp
    rw [g0]
    refine loop_rule (hn := fun _ => false) (od := fun _ => none) (fun (y : Nat × List Blk) q H' => H' = V (failE (exsM t ar (x.args.take y.1)).2 e) y.2 ∧ q 0 = .bp kc 0 ∧ q 3 = .bp M.length 0 ∧ q 5 = Bo (exsM t ar (x.args.take y.1)).1 ∧ q 6 = I y.1 ∧ y.1 ≤ x.args.length) (fun y => x.args.length - y.1) (by kernel_rfl) (0, [])
      ⟨by simp [exsM, failE], by simp, by simp, by simp [exsM], by simp, by simp⟩ ?_
    rintro ⟨i, L⟩ q _ ⟨rfl, q0, q3, q5, q6, hi⟩
    simp only at q5 q6 hi
    obtain ⟨r, hr⟩ : ∃ r, r = exsM t ar (x.args.take i) := ⟨_, rfl⟩
    simp only
    rw [← hr] at q5 ⊢
    replace hr := Hid.mk hr
    replace hsb := Hid.mk hsb
    simp -dsimp [q0, q3, q5, q6, v0]
    refine condVW_introD (fun hlt => ?_) (fun hlt => ?_)
    · have hlt' : i < x.args.length := by omega
      have hb3 := hb2 i hlt'
      have hn3 := exsNm_get n3 hlt'
      have htk := take_succ' hlt'
      have hlx := List.getElem?_eq_getElem hlt'
      obtain ⟨y, hy⟩ : ∃ y, y = x.args[i] := ⟨_, rfl⟩
      rw [← hy] at hn3 hlx hb3 htk
      clear hy
      have hsn : exsM t ar (x.args.take (i + 1)) = (r.1 || (y.exM t ar).1, r.2 || (y.exM t ar).2) := by rw [htk, exsM_snoc, hr.out]
      have ih := ih y (by omega) (by omega) hn3 (V (failE r.2 e) L) _ (hD _ _)
      simp only [Ex.cells_eq] at ih
      have w1 : IntKind.i64.wrap ((i : Int) + 1) = ((i + 1 : Nat) : Int) := wrapS (by omega)
      have hsl : (x.args.map Ex.cells)[i]? = some [I y.op, U y.word, St y.name, Ex.sl y.args] := by rw [List.getElem?_map, hlx, Option.map_some, Ex.cells_eq]
      simp -dsimp [q0, q3, q5, q6, hsl, v0]
      refine acallsW_of ih ?_
      rintro z H' ⟨rfl, L', hz⟩
      rw [vs', vA, ← failE_or] at hz
      subst hz
      cases hl : (y.exM t ar).1
      · rw [hl, Bool.or_false] at hsn
        simp -dsimp [q0, q3, q5, q6]
        exact ⟨i + 1, by omega, ⟨_, by rw [hsn]⟩, by rw [hsn], w1, by omega⟩
      · rw [hl, Bool.or_true] at hsn
        simp -dsimp [q0, q3, q5, q6]
        exact ⟨i + 1, by omega, ⟨_, by rw [hsn]⟩, by rw [hsn], w1, by omega⟩
    · have hr := hr.out
      rw [List.take_of_length_le (by omega)] at hr
      have hsb := hsb.out
      rw [← hr] at hsb
      obtain ⟨s, b⟩ := r
      simp only at hsb q5 ⊢
      clear hr
      by_cases h2 : x.op = 2
      · rw [if_pos h2] at hsb
        obtain ⟨z1, z2⟩ := Prod.mk.inj hsb
        obtain ⟨e1, e2, v, e3, e4⟩ := hfw _ (n1 h2)
        have cf := fun H => cf x.name H
        rw [e1, e2] at cf
        obtain ⟨j, hj⟩ : ∃ j, j = idxV vs x.name := ⟨_, rfl⟩
        rw [← hj] at cf e3
        have e5 := hag j v e3
        rw [e4] at e5
        simp -dsimp [q0, q3, q5, v0, h2, vg]
        refine callDW_intro (cf _) ?_
        have hjl := (List.getElem?_eq_some_iff.1 e5).1
        cases h with
        | none => have := hd.row.nil rfl; subst this; simp at hjl
        | some k =>
          have hk := (hD (failE b e) L).row.row k rfl
          simp only [bRow] at hk
          have hxe : X = .hs k 0 A.length A.length := hX
          have e6 : (A.map fun b => [Bo b])[j]? = some [Bo (lookB x.name t)] := by rw [List.getElem?_map, e5]; rfl
          simp -dsimp [q0, vg, hxe, hk, e6]
          refine ⟨hjl, ?_⟩
          simp -dsimp [q0, vg, hxe, hk, e6]
          rw [← hxe]
          exact fin _ _ _ z1 (by rw [← z2])
      · have h2b : (x.op == 2) = false := by simpa using h2
        rw [if_neg h2] at hsb
        by_cases h3 : x.op = 3
        · rw [if_pos h3] at hsb
          obtain ⟨z1, z2⟩ := Prod.mk.inj hsb
          have ca := fun M l e hd => carr x.name (n2 h3) M l e hd
          cases s
          · simp -dsimp [q0, q3, q5, v0, h3, vg]
            refine acallsW_det (ca _ _ _ (hD _ _)) ?_
            simp -dsimp
            exact fin _ _ _ z1 (by rw [← z2, Bool.or_false])
          · simp -dsimp [q0, q3, q5, v0, h3, vg]
            have cfl := fail_ok (hD (failE b e) L) 10
            rw [← hX, vs'] at cfl
            refine acallsW_of cfl ?_
            rintro z H' ⟨rfl, rfl⟩
            simp -dsimp [q0, q3, v0]
            refine acallsW_det (ca _ _ _ (hD _ _)) ?_
            simp -dsimp
            exact fin _ _ _ z1 (by rw [← z2, failE_or]; generalize failE b e = e'; unfold failE; simp)
        · have h3b : (x.op == 3) = false := by simpa using h3
          rw [if_neg h3] at hsb
          obtain ⟨z1, z2⟩ := Prod.mk.inj hsb
          simp -dsimp [q0, q3, q5, v0, h2b, h3b]
          exact fin _ _ _ z1 (by rw [← z2])
end Go.Proofs
namespace Go.Proofs
open Go.Mu
@[simp] theorem avCells_rowX (h : Option Nat) (n : Nat) : avCells (rowX h n) = some [rowX h n] := by cases h <;> rfl
@[simp] theorem one_rowX (h : Option Nat) (n : Nat) : (rowX h n).one = true := by cases h <;> rfl
structure Pre (M M' : List Blk) : Prop where
  len : M.length ≤ M'.length
  get : ∀ i, i < M.length → M'[i]? = M[i]?
theorem Pre.refl (M : List Blk) : Pre M M := ⟨Nat.le_refl _, fun _ _ => rfl⟩
theorem Pre.trans {M M1 M2 : List Blk} (a : Pre M M1) (b : Pre M1 M2) : Pre M M2 := ⟨Nat.le_trans a.len b.len, fun i hi => by rw [b.get i (Nat.lt_of_lt_of_le hi a.len), a.get i hi]⟩
theorem Pre.app (M L : List Blk) : Pre M (M ++ L) := ⟨by simp, fun i hi => List.getElem?_append_left hi⟩
theorem Pre.old {M M' : List Blk} (a : Pre M M') {k : Nat} {b : Blk} (h : M[k]? = some b) : M'[k]? = some b := by rw [a.get k (lt_of_get h)]; exact h
theorem Pre.row {M M' : List Blk} (a : Pre M M') {h : Option Nat} {l : List Bool} (hr : BRow M h l) : BRow M' h l := ⟨fun k hk => a.old (hr.row k hk), hr.nil⟩
theorem Pre.din {M M' : List Blk} (a : Pre M M') {kc : Nat} {h : Option Nat} {p : Pg} {f : Nat} {l : List Bool} {e g : Int} (hd : DIn M kc h p f l e g) : DIn M' kc h p f l e g := ⟨a.old hd.box, a.row hd.row⟩
def New (B : Nat) (h : Option Nat) : Prop := ∀ k, h = some k → B ≤ k
theorem app_brow {n : Nat} {M H : List Blk} {h : Option Nat} {l ys : List Bool} {sl : TypeId × Nat × List Value × Nat} {K : AV → List Blk → Prop} {w : Wit K} (hr : BRow H h l) (hm : l.length = n) (hn : New M.length h) (hp : Pre M H) (h1 : sl.1 = 4) (h2 : sl.2.1 = 1) (hs : sl.2.2.2 ≤ 16) (hb : l.length + ys.length ≤ 2^39)
    (k : ∀ h' H', BRow H' h' (l ++ ys) → New M.length h' → Pre M H' → (∀ i b, h ≠ some i → H[i]? = some b → H'[i]? = some b) → (∀ i, i < H.length → h ≠ some i → h' ≠ some i) → K (rowX h' (n + ys.length)) H') : appendVW H sl (rowX h n) (ys.map fun b => [Bo b]) K w := by
  obtain ⟨s1, s2, s3, s4⟩ := sl
  simp only at h1 h2 hs
  subst h1 h2 hm
  have hbd : (l.length + ys.length) * s4 ≤ 140737488355328 := by
    have : (l.length + ys.length) * s4 ≤ (l.length + ys.length) * 16 := Nat.mul_le_mul_left _ hs
    omega
  have hl := hp.len
  cases h with
  | none =>
    have := hr.nil rfl
    subst this
    simp only [List.length_nil, Nat.zero_add] at hbd
    simp only [rowX]
    refine appendVW_nil (by simpa using hbd) (by simp at hb ⊢; omega) (fun hy => ?_) (fun hy => ?_)
    · have : ys = [] := by simpa using hy
      subst this
      exact k none H ⟨fun _ h => (by cases h), fun _ => rfl⟩ hn hp (fun i b _ h => h) (fun i _ h => h)
    · have := k (some H.length) (H ++ [bRow ys]) ⟨fun k hk => (by cases hk; simp), fun h => (by cases h)⟩ (fun k hk => (by cases hk; exact hl)) (hp.trans (.app _ _)) (fun i b _ h => get_app_old h _) (fun i hi _ e => by cases e; omega)
      simpa [rowX, bRow] using this
  | some i =>
    have q3 := hr.row i rfl
    have hil := lt_of_get q3
    have q1 := hn i rfl
    simp only [bRow] at q3
    simp only [rowX]
    refine appendVW_hs (es := l.map fun s => [Bo s]) q3 (by simp) (by simp) (by simpa using hbd) (by simp; omega) ?_
    have e : l.map (fun s => [Bo s]) ++ ys.map (fun s => [Bo s]) = (l ++ ys).map fun s => [Bo s] := by simp
    rw [e]
    have := k (some i) (H.set i (bRow (l ++ ys))) ⟨fun k hk => (by cases hk; simp [hil]), fun h => (by cases h)⟩ hn ⟨by simp; omega, fun j hj => by rw [List.getElem?_set_ne (by omega)]; exact hp.get j hj⟩ (fun j b hne h => by rw [List.getElem?_set_ne (fun e => hne (by rw [e]))]; exact h) (fun j _ h => h)
    simpa [rowX, bRow] using this
theorem srcEs_brow {H : List Blk} {h : Option Nat} {l : List Bool} (hr : BRow H h l) : srcEs H 1 (rowX h l.length) = some (l.map fun s => [Bo s]) := by
  cases h with
  | none => have := hr.nil rfl; subst this; rfl
  | some k =>
    have q3 := hr.row k rfl
    simp only [bRow] at q3
    simp only [rowX, srcEs, q3, List.length_map, and_self, if_true, List.drop_zero]
    rw [List.take_of_length_le (by simp)]
theorem lenV_brow {H : List Blk} {h : Option Nat} {l : List Bool} (hr : BRow H h l) : lenV H 1 (rowX h l.length) = some (l.length : Int) := by
  cases h with
  | none => have := hr.nil rfl; subst this; rfl
  | some k =>
    have q3 := hr.row k rfl
    simp only [bRow] at q3
    simp [rowX, q3]
theorem zipOr_get : ∀ {a b : List Bool} {i : Nat} {x y : Bool}, a[i]? = some x → b[i]? = some y → (zipOr a b)[i]? = some (x || y)
  | [], _, i, _, _, h, _ => by simp at h
  | _ :: _, [], i, _, _, _, h => by simp at h
  | u :: a, v :: b, 0, x, y, h1, h2 => by simp at h1 h2; subst h1 h2; rfl
  | u :: a, v :: b, i + 1, x, y, h1, h2 => by
    have := zipOr_get (a := a) (b := b) (i := i) (x := x) (y := y) (by simpa using h1) (by simpa using h2)
    simpa [zipOr] using this
theorem take_get {α : Type} {l : List α} {i : Nat} {x : α} (h : l[i]? = some x) : l.take (i + 1) = l.take i ++ [x] := by
  obtain ⟨hi, rfl⟩ := List.getElem?_eq_some_iff.1 h
  exact take_succ' hi
theorem rjoin_ok (a b : List Bool) (M : List Blk) (ha hb : Option Nat) (hA : BRow M ha a) (hB : BRow M hb b) (hl : a.length = b.length) (h40 : a.length ≤ 64) :
    ACalls Try.prog 99 [rowX ha a.length, rowX hb b.length] M (fun r M' => ∃ h', r = .ret (rowX h' (zipOr a b).length) ∧ BRow M' h' (zipOr a b) ∧ New M.length h' ∧ Pre M M') := by
  refine acalls_of_vc (hn := fun d => d == 25) (od := fun _ => none) Try.func99 rfl (by kernel_rfl) ?_
  obtain ⟨Z, hZ⟩ : ∃ Z, Z = zipOr a b := ⟨_, rfl⟩
  have hZl : Z.length = a.length := by rw [hZ]; exact zipOr_len hl
  have hzg := fun {i x y} h1 h2 => zipOr_get (a := a) (b := b) (i := i) (x := x) (y := y) h1 h2
  rw [← hZ] at hzg ⊢
  obtain ⟨X, hX⟩ : ∃ X, X = rowX ha a.length := ⟨_, rfl⟩
  obtain ⟨Y, hY⟩ : ∃ Y, Y = rowX hb b.length := ⟨_, rfl⟩
  rw [← hX, ← hY]
  obtain ⟨I0, hI⟩ : ∃ I0 : Nat → Option Nat → List Blk → Prop, I0 = fun i h' H' => BRow H' h' (Z.take i) ∧ New M.length h' ∧ Pre M H' ∧ i ≤ a.length := ⟨_, rfl⟩
  have hIe : ∀ i h' H', I0 i h' H' ↔ BRow H' h' (Z.take i) ∧ New M.length h' ∧ Pre M H' ∧ i ≤ a.length := fun i h' H' => by rw [hI]
  clear hI hZ
  simp -dsimp
  refine loop_rule (hn := fun d => d == 25) (od := fun _ => none) (fun (y : Nat × Option Nat) q H' => I0 y.1 y.2 H' ∧ q 0 = X ∧ q 1 = Y ∧ q 5 = rowX y.2 y.1 ∧ q 6 = I y.1) (fun y => a.length - y.1) (by kernel_rfl) (0, none)
    ⟨(hIe _ _ _).2 ⟨⟨fun _ h => (by cases h), fun _ => rfl⟩, fun _ h => (by cases h), .refl _, by simp⟩, by simp, by simp, by simp [rowX], by simp⟩ ?_
  rintro ⟨i, h'⟩ q H' ⟨hi, q0, q1, q5, q6⟩
  simp only at hi q5 q6
  obtain ⟨hr, hn, hpre, hil⟩ := (hIe _ _ _).1 hi
  clear hi
  have hXl : lenV H' 1 X = some (a.length : Int) := by rw [hX]; exact lenV_brow (hpre.row hA)
  simp -dsimp [q0, q1, q5, q6, hXl]
  refine condVW_introD (fun hlt => ?_) (fun hlt => ?_)
  · have hlt' : i < a.length := by omega
    have hax := List.getElem?_eq_getElem hlt'
    have hbx := List.getElem?_eq_getElem (show i < b.length by omega)
    obtain ⟨x, hx⟩ : ∃ x, x = a[i] := ⟨_, rfl⟩
    obtain ⟨y, hy⟩ : ∃ y, y = b[i]'(by omega) := ⟨_, rfl⟩
    rw [← hx] at hax
    rw [← hy] at hbx
    clear hx hy
    have htk := take_get (hzg hax hbx)
    have w1 : IntKind.i64.wrap ((i : Int) + 1) = ((i + 1 : Nat) : Int) := wrapS (by omega)
    have hA' := hpre.row hA
    have hB' := hpre.row hB
    cases ha with
    | none => have := hA'.nil rfl; subst this; simp at hlt'
    | some ka =>
    cases hb with
    | none => have := hB'.nil rfl; subst this; simp at hbx
    | some kb =>
    have ra := hA'.row ka rfl
    have rb := hB'.row kb rfl
    simp only [bRow] at ra rb
    simp only [rowX] at hX hY
    have ea : (a.map fun b => [Bo b])[i]? = some [Bo x] := by rw [List.getElem?_map, hax]; rfl
    have eb : (b.map fun b => [Bo b])[i]? = some [Bo y] := by rw [List.getElem?_map, hbx]; rfl
    have hll : (Z.take i).length = i := by simp; omega
    have hil2 : i < b.length := by omega
    cases x
    · simp -dsimp [q0, q1, q5, q6, hX, hY, ra, rb, ea, eb]
      refine ⟨hlt', ?_⟩
      simp -dsimp [q0, q1, q5, q6, hX, hY, ra, rb, ea, eb]
      refine ⟨hil2, ?_⟩
      simp -dsimp [q0, q1, q5, q6, hX, hY, ra, rb, ea, eb]
      refine app_brow (ys := [y]) hr hll hn hpre rfl rfl (by decide) (by simp; omega) (fun h2 H2 hr2 hn2 hp2 _ _ => ?_)
      rw [show (Z.take i ++ [y]) = (Z.take i ++ [false || y]) from rfl, ← htk] at hr2
      simp -dsimp [q0, q1, q5, q6]
      exact ⟨i + 1, by omega, h2, (hIe _ _ _).2 ⟨hr2, hn2, hp2, by omega⟩, hX, hY, rfl, w1⟩
    · simp -dsimp [q0, q1, q5, q6, hX, hY, ra, rb, ea, eb]
      refine ⟨hlt', ?_⟩
      simp -dsimp [q0, q1, q5, q6, hX, hY, ra, rb, ea, eb]
      refine app_brow (ys := [true]) hr hll hn hpre rfl rfl (by decide) (by simp; omega) (fun h2 H2 hr2 hn2 hp2 _ _ => ?_)
      rw [show (Z.take i ++ [true]) = (Z.take i ++ [true || y]) from rfl, ← htk] at hr2
      simp -dsimp [q0, q1, q5, q6]
      exact ⟨i + 1, by omega, h2, (hIe _ _ _).2 ⟨hr2, hn2, hp2, by omega⟩, hX, hY, rfl, w1⟩
  · simp -dsimp [q5]
    rw [List.take_of_length_le (by omega)] at hr
    have : i = Z.length := by omega
    subst this
    exact ⟨h', rfl, hr, hn, hpre⟩
end Go.Proofs
namespace Go.Proofs
open Go.Mu
theorem dequal_ok (a b : List Bool) (M : List Blk) (ha hb : Option Nat) (hA : BRow M ha a) (hB : BRow M hb b) (hl : a.length = b.length) (h40 : a.length ≤ 64) :
    ACalls Try.prog 101 [rowX ha a.length, rowX hb b.length] M (fun r M' => r = .ret (Bo (decide (a = b))) ∧ M' = M) := by
  refine acalls_tidy (acalls_of_vc (hn := fun _ => false) (od := fun _ => none) Try.func101 rfl (by kernel_rfl) ?_)
  obtain ⟨B, hBe⟩ : ∃ B, B = decide (a = b) := ⟨_, rfl⟩
  rw [← hBe]
  have fin : ∀ c, c = B → Tidy M (fun r M' => r = .ret (Bo B) ∧ M' = M) (.ret (Bo c)) M := fun c hc => by rw [hc]; exact tidy_now rfl ⟨rfl, rfl⟩
  obtain ⟨X, hX⟩ : ∃ X, X = rowX ha a.length := ⟨_, rfl⟩
  obtain ⟨Y, hY⟩ : ∃ Y, Y = rowX hb b.length := ⟨_, rfl⟩
  rw [← hX, ← hY]
  have hXl : lenV M 1 X = some (a.length : Int) := by rw [hX]; exact lenV_brow hA
  simp -dsimp
  refine loop_rule (hn := fun _ => false) (od := fun _ => none) (fun (i : Nat) q H' => H' = M ∧ q 0 = X ∧ q 1 = Y ∧ q 5 = I i ∧ i ≤ a.length ∧ (∀ j, j < i → a[j]? = b[j]?)) (fun i => a.length - i) (by kernel_rfl) 0
    ⟨rfl, by simp, by simp, by simp, by simp, fun j h => by omega⟩ ?_
  rintro i q _ ⟨rfl, q0, q1, q5, hi, hin⟩
  replace hin := Hid.mk hin
  simp -dsimp [q0, q1, q5, hXl]
  refine condVW_introD (fun hlt => ?_) (fun hlt => ?_)
  · have hlt' : i < a.length := by omega
    have hil2 : i < b.length := by omega
    have hax := List.getElem?_eq_getElem hlt'
    have hbx := List.getElem?_eq_getElem hil2
    obtain ⟨x, hx⟩ : ∃ x, x = a[i] := ⟨_, rfl⟩
    obtain ⟨y, hy⟩ : ∃ y, y = b[i]'(by omega) := ⟨_, rfl⟩
    rw [← hx] at hax
    rw [← hy] at hbx
    clear hx hy
    have w1 : IntKind.i64.wrap ((i : Int) + 1) = ((i + 1 : Nat) : Int) := wrapS (by omega)
    cases ha with
    | none => have := hA.nil rfl; subst this; simp at hlt'
    | some ka =>
    cases hb with
    | none => have := hB.nil rfl; subst this; simp at hbx
    | some kb =>
    have ra := hA.row ka rfl
    have rb := hB.row kb rfl
    simp only [bRow] at ra rb
    simp only [rowX] at hX hY
    have ea : (a.map fun b => [Bo b])[i]? = some [Bo x] := by rw [List.getElem?_map, hax]; rfl
    have eb : (b.map fun b => [Bo b])[i]? = some [Bo y] := by rw [List.getElem?_map, hbx]; rfl
    have hbn : binE Try.prog .neq 4 (Bo x) (Bo y) = some (Bo (x != y)) := by cases x <;> cases y <;> kernel_rfl
    simp -dsimp [q0, q1, q5, hX, hY, ra, rb, ea, eb]
    refine ⟨hlt', ?_⟩
    simp -dsimp [q0, q1, q5, hX, hY, ra, rb, ea, eb]
    refine ⟨hil2, ?_⟩
    by_cases hxy : x = y
    · have hne : (x != y) = false := by subst hxy; cases x <;> rfl
      simp -dsimp [q0, q1, q5, hX, hY, ra, rb, ea, eb, hbn, hne]
      exact ⟨i + 1, by omega, w1, by omega, fun j hj => by
        by_cases hji : j < i
        · exact hin.out j hji
        · have : j = i := by omega
          rw [this, hax, hbx, hxy]⟩
    · have hne : (x != y) = true := by simpa using hxy
      simp -dsimp [q0, q1, q5, hX, hY, ra, rb, ea, eb, hbn, hne]
      refine fin _ ?_
      rw [hBe]
      symm
      rw [decide_eq_false_iff_not]
      intro e
      rw [e, hbx] at hax
      exact hxy (Option.some.inj hax).symm
  · simp -dsimp
    refine fin _ ?_
    rw [hBe]
    symm
    rw [decide_eq_true_eq]
    apply List.ext_getElem?
    intro j
    by_cases hj : j < a.length
    · exact hin.out j (by omega)
    · rw [List.getElem?_eq_none (by omega), List.getElem?_eq_none (by omega)]
theorem DKeep.pre {M M1 M2 : List Blk} {kc : Nat} {h : Option Nat} (a : DKeep M M1 kc h) (b : Pre M1 M2) : DKeep M M2 kc h :=
  ⟨Nat.le_trans a.len b.len, fun i hi h1 h2 => by rw [b.get i (Nat.lt_of_lt_of_le hi a.len), a.get i hi h1 h2]⟩
theorem Pre.set {M M' : List Blk} (a : Pre M M') {k : Nat} (h : M.length ≤ k) (X : Blk) : Pre M (M'.set k X) :=
  ⟨by simpa using a.len, fun i hi => by rw [List.getElem?_set_ne (by omega)]; exact a.get i hi⟩
theorem renter_ok (p : Pg) (hp : RIn p) (f : Nat) (hf : f < p.funcs.length) (M : List Blk) :
    ACalls Try.prog 61 [.agg p.cells, I f] M (fun r M' => ∃ kc h, r = .ret (.bp kc 0) ∧ DIn M' kc h p f (atOf (fcAt p f) (enterT (fcAt p f))) 0 0 ∧ Pre M M' ∧ M.length ≤ kc ∧ New M.length h) := by
  refine acalls_of_vc (hn := fun d => d == 37 || d == 53) (od := fun _ => none) Try.func61 rfl (by kernel_rfl) ?_
  rw [at_enter (hp.fn f hf).nm]
  obtain ⟨hF, _⟩ := fcAt_get hf
  have hw := (hp.fn f hf).words
  obtain ⟨F, hFe⟩ : ∃ F, F = fcAt p f := ⟨_, rfl⟩
  rw [← hFe] at hF hw ⊢
  have hFc : (p.funcs.map Fc.cells)[f]? = some F.cells := by rw [List.getElem?_map, hF]; rfl
  simp only [Fc.cells] at hFc
  clear hFe
  obtain ⟨Q, hQ⟩ : ∃ Q : AE → List Blk → Prop, Q = fun r M' => ∃ kc h, r = .ret (.bp kc 0) ∧ DIn M' kc h p f (F.params.map (·.secret) ++ F.vars.map fun _ => false) 0 0 ∧ Pre M M' ∧ M.length ≤ kc ∧ New M.length h := ⟨_, rfl⟩
  rw [← hQ]
  obtain ⟨bP, hbP⟩ : ∃ bP, bP = Blk.box 25 p.cells := ⟨_, rfl⟩
  obtain ⟨bF, hbF⟩ : ∃ bF, bF = Blk.box 38 F.cells := ⟨_, rfl⟩
  obtain ⟨J, hJ⟩ : ∃ J : Option Nat → List Bool → List Blk → Prop, J = fun h l H' => DIn H' (M.length + 1) h p f l 0 0 ∧ Pre M H' ∧ H'[M.length + 2]? = some bF ∧ New M.length h := ⟨_, rfl⟩
  have hJe : ∀ h l H', J h l H' ↔ DIn H' (M.length + 1) h p f l 0 0 ∧ Pre M H' ∧ H'[M.length + 2]? = some bF ∧ New M.length h := fun h l H' => by rw [hJ]
  have j0 : J none [] (M ++ [bP, .box 119 [Rg.sl p.regions, Fc.sl p.funcs, I f, nilS, I 0, I 0], bF]) := by
    refine (hJe _ _ _).2 ⟨⟨?_, ⟨fun _ h => (by cases h), fun _ => rfl⟩⟩, .app _ _, by simp, fun _ h => (by cases h)⟩
    rw [List.getElem?_append_right (by omega)]
    simp [chkC, rowX]
  have jn : ∀ {h : Option Nat} {l : List Bool} {H' : List Blk} {h2 : Option Nat} {H2 : List Blk} {y : Bool}, J h l H' → BRow H2 h2 (l ++ [y]) → New M.length h2 → Pre M H2 → (∀ i b, h ≠ some i → H'[i]? = some b → H2[i]? = some b) →
      J h2 (l ++ [y]) (H2.set (M.length + 1) (.box 119 [Rg.sl p.regions, Fc.sl p.funcs, I f, rowX h2 (l.length + 1), I 0, I 0])) ∧ H2[M.length + 1]? = some (.box 119 [Rg.sl p.regions, Fc.sl p.funcs, I f, rowX h l.length, I 0, I 0]) := by
    intro h l H' h2 H2 y hj hr hn hpre hold
    obtain ⟨hd, hp', hbF', hn'⟩ := (hJe _ _ _).1 hj
    have hb2 := hold _ _ hd.ne hd.box
    have hf2 := hold _ _ (hd.row.ne_box (by rw [hbF', hbF])) hbF'
    refine ⟨(hJe _ _ _).2 ⟨⟨?_, hr.setK (hr.ne_box hb2) _⟩, hpre.set (by omega) _, by rw [get_set_ne (by omega)]; exact hf2, hn⟩, hb2⟩
    rw [get_set_eq hb2, List.length_append]
    rfl
  have j1 : ∀ {h l H'}, J h l H' → H'[M.length + 1]? = some (.box 119 [Rg.sl p.regions, Fc.sl p.funcs, I f, rowX h l.length, I 0, I 0]) := fun hj => ((hJe _ _ _).1 hj).1.box
  have j2 : ∀ {h l H'}, J h l H' → H'[M.length + 2]? = some (.box 38 [St F.name, Vr.sl F.params, Vr.sl F.vars, St.sl F.rets, Sm.sl F.body]) := fun hj => by rw [((hJe _ _ _).1 hj).2.2.1, hbF]; rfl
  have j3 : ∀ {h l H'}, J h l H' → BRow H' h l ∧ New M.length h ∧ Pre M H' := fun hj => ⟨((hJe _ _ _).1 hj).1.row, ((hJe _ _ _).1 hj).2.2.2, ((hJe _ _ _).1 hj).2.1⟩
  have j4 : ∀ {h l H'}, J h l H' → l = F.params.map (·.secret) ++ (F.vars.map fun _ => false) → Q (.ret (.bp (M.length + 1) 0)) H' := fun {h l H'} hj hl => by
    subst hl
    obtain ⟨a, b, c, d⟩ := (hJe _ _ _).1 hj
    rw [hQ]
    exact ⟨_, h, rfl, a, b, by omega, d⟩
  clear hJ hJe hQ
  simp only [hbP, hbF, Pg.cells, Fc.cells] at j0
  simp -dsimp [hFc]
  refine loop_rule (hn := fun d => d == 37 || d == 53) (od := fun _ => none) (fun (y : Nat × Option Nat) q H' => J y.2 ((F.params.map (·.secret)).take y.1) H' ∧ q 5 = .bp (M.length + 1) 0 ∧ q 6 = .bp (M.length + 2) 0 ∧ q 7 = I y.1 ∧ y.1 ≤ F.params.length) (fun y => F.params.length - y.1) (by kernel_rfl) (0, none) ⟨by simpa using j0, by simp, by simp, by simp, by simp⟩ ?_
  rintro ⟨i, h⟩ q H' ⟨hj, q5, q6, q7, hi⟩
  simp only at hj q7 hi
  replace hj := Hid.mk hj
  have hb := j1 hj.out
  have hb2 := j2 hj.out
  obtain ⟨lv, hlv⟩ : ∃ lv, lv = (F.params.map (·.secret)).take i := ⟨_, rfl⟩
  rw [← hlv] at hj hb
  have hll : lv.length = i := by rw [hlv]; simp; omega
  simp -dsimp [q5, q6, q7, hb, hb2]
  refine condVW_introD (fun hlt => ?_) (fun hlt => ?_)
  · have hlt' : i < F.params.length := by omega
    have hvx := List.getElem?_eq_getElem hlt'
    obtain ⟨v, hv⟩ : ∃ v, v = F.params[i] := ⟨_, rfl⟩
    rw [← hv] at hvx
    have htk : (F.params.map (·.secret)).take (i + 1) = lv ++ [v.secret] := by
      rw [take_get (x := v.secret) (by rw [List.getElem?_map, hvx]; rfl), hlv]
    clear hv hlv
    have w1 : IntKind.i64.wrap ((i : Int) + 1) = ((i + 1 : Nat) : Int) := wrapS (by omega)
    have hvc : (F.params.map Vr.cells)[i]? = some [St v.name, I v.kind, I v.size, Bo v.secret] := by rw [List.getElem?_map, hvx]; rfl
    obtain ⟨r1, r2, r3⟩ := j3 hj.out
    simp -dsimp [q5, q6, q7, hb, hb2, hvc]
    refine app_brow (ys := [v.secret]) r1 rfl r2 r3 rfl rfl (by decide) (by simp; omega) (fun h2 H2 hr2 hn2 hp2 ho2 _ => ?_)
    obtain ⟨jj, hbx⟩ := jn hj.out hr2 hn2 hp2 ho2
    rw [← htk] at jj
    simp -dsimp [q5, q6, q7, hbx]
    exact ⟨i + 1, by omega, ⟨h2, jj⟩, w1, by omega⟩
  · have hlv2 : lv = F.params.map (·.secret) := by rw [hlv]; exact List.take_of_length_le (by simp; omega)
    subst hlv2
    clear hlv hll hb hb2 j0
    simp -dsimp [q5, q6]
    refine loop_rule (hn := fun d => d == 37 || d == 53) (od := fun _ => none) (fun (y : Nat × Option Nat) q H' => J y.2 (F.params.map (·.secret) ++ (F.vars.map fun _ => false).take y.1) H' ∧ q 5 = .bp (M.length + 1) 0 ∧ q 6 = .bp (M.length + 2) 0 ∧ q 8 = I y.1 ∧ y.1 ≤ F.vars.length) (fun y => F.vars.length - y.1) (by kernel_rfl) (0, h) ⟨by simpa using hj.out, by simp [q5, q6], by simp [q5, q6], by simp [q5, q6], by simp⟩ ?_
    rintro ⟨i, h⟩ q H' ⟨hj, q5, q6, q8, hi⟩
    simp only at hj q8 hi
    replace hj := Hid.mk hj
    have hb := j1 hj.out
    have hb2 := j2 hj.out
    obtain ⟨lv, hlv⟩ : ∃ lv, lv = F.params.map (·.secret) ++ (F.vars.map fun _ => false).take i := ⟨_, rfl⟩
    rw [← hlv] at hj hb
    have hll : lv.length = F.params.length + i := by rw [hlv]; simp; omega
    simp -dsimp [q5, q6, q8, hb, hb2]
    refine condVW_introD (fun hlt => ?_) (fun hlt => ?_)
    · have hlt' : i < F.vars.length := by omega
      have hvx := List.getElem?_eq_getElem hlt'
      obtain ⟨v, hv⟩ : ∃ v, v = F.vars[i] := ⟨_, rfl⟩
      rw [← hv] at hvx
      have htk : F.params.map (·.secret) ++ (F.vars.map fun _ => false).take (i + 1) = lv ++ [false] := by
        rw [take_get (x := false) (by rw [List.getElem?_map, hvx]; rfl), hlv, List.append_assoc]
      clear hv hlv
      have w1 : IntKind.i64.wrap ((i : Int) + 1) = ((i + 1 : Nat) : Int) := wrapS (by omega)
      have hvc : (F.vars.map Vr.cells)[i]? = some [St v.name, I v.kind, I v.size, Bo v.secret] := by rw [List.getElem?_map, hvx]; rfl
      obtain ⟨r1, r2, r3⟩ := j3 hj.out
      simp -dsimp [q5, q6, q8, hb, hb2, hvc]
      refine app_brow (ys := [false]) r1 rfl r2 r3 rfl rfl (by decide) (by simp; omega) (fun h2 H2 hr2 hn2 hp2 ho2 _ => ?_)
      obtain ⟨jj, hbx⟩ := jn hj.out hr2 hn2 hp2 ho2
      rw [← htk] at jj
      simp -dsimp [q5, q6, q8, hbx]
      exact ⟨i + 1, by omega, ⟨h2, jj⟩, w1, by omega⟩
    · have hlv2 : lv = F.params.map (·.secret) ++ F.vars.map fun _ => false := by rw [hlv]; congr 1; exact List.take_of_length_le (by simp; omega)
      simp -dsimp [q5]
      exact j4 hj.out hlv2
end Go.Proofs
namespace Go.Proofs
open Go.Mu
variable {M M' : List Blk} {kc : Nat} {h : Option Nat} {p : Pg} {f : Nat} {l : List Bool} {e g : Int}
theorem DKeep.weak (a : DKeep M M' kc none) (h : Option Nat) : DKeep M M' kc h := ⟨a.len, fun i hi h1 _ => a.get i hi h1 (by simp)⟩
theorem DKeep.old (a : DKeep M M' kc h) {k : Nat} {b : Blk} (hb : M[k]? = some b) (h1 : k ≠ kc) (h2 : h ≠ some k) : M'[k]? = some b := by rw [a.get k (lt_of_get hb) h1 h2]; exact hb
theorem DIn.old (hd : DIn M kc h p f l e g) (a : DKeep M M' kc h) {k : Nat} {t : TypeId} {c : List AV} (hb : M[k]? = some (.box t c)) (ht : t ≠ 119) : M'[k]? = some (.box t c) := by
  refine a.old hb ?_ (hd.row.ne_box hb)
  rintro rfl
  have := hd.box.symm.trans hb
  simp only [Option.some.injEq, Blk.box.injEq] at this
  exact ht this.1.symm
abbrev FcN (p : Pg) (f : Nat) : List Vr := allV (fcAt p f)
abbrev KN (p : Pg) (f : Nat) : List ByteArray := Keys (enterT (fcAt p f))
abbrev AN (p : Pg) (f : Nat) : List ByteArray := Keys (arrT p.regions (fcAt p f))
theorem dexpr2 (hp : RIn p) (hf : f < p.funcs.length) (t : Tab) (x : Ex) (h40 : x.count ≤ 2^40) (hn : x.nm (KN p f) (AN p f) = true) (hd : DIn M kc h p f (atOf (fcAt p f) t) e g) :
    ACalls Try.prog 97 [.bp kc 0, .agg x.cells] M (fun r M' => r = .ret (Bo (x.exM t (arrT p.regions (fcAt p f))).1) ∧ DIn M' kc h p f (atOf (fcAt p f) t) (failE (x.exM t (arrT p.regions (fcAt p f))).2 e) g ∧ DKeep M M' kc none) := by
  refine ACalls.mono (dexpr_ok p hp f hf t _ x (Nat.le_refl _) h40 hn hd) ?_
  rintro r M' ⟨rfl, L, rfl⟩
  exact ⟨rfl, (hd.setE _ _).app _, ((DKeep.refl _ _ _).set (.inl rfl) _).app _⟩
theorem dfail2 (hd : DIn M kc h p f l e g) (n : Int) : ACalls Try.prog 95 [.bp kc 0, I n] M (fun r M' => r = .ret (.tup []) ∧ DIn M' kc h p f l (if e = 0 then n else e) g ∧ DKeep M M' kc none) := by
  refine ACalls.mono (fail_ok hd n) ?_
  rintro r M' ⟨rfl, rfl⟩
  exact ⟨rfl, hd.setE _ _, (DKeep.refl _ _ _).set (.inl rfl) _⟩
theorem dset2 (hp : RIn p) (hf : f < p.funcs.length) (hd : DIn M kc h p f l e g) (n : ByteArray) (hn : n ∈ KN p f) (hl : l.length = (FcN p f).length) (b : Bool) :
    ACalls Try.prog 96 [.bp kc 0, St n, Bo b] M (fun r M' => r = .ret (.tup []) ∧ DIn M' kc h p f (l.set (idxV (FcN p f) n) b) e g ∧ DKeep M M' kc h) := by
  refine ACalls.mono (rset_ok hp hf hd n hn hl b) ?_
  rintro r M' ⟨rfl, k, hk, rfl⟩
  exact ⟨rfl, hd.setL hk (by simp), (DKeep.refl _ _ _).set (.inr (.inl hk)) _⟩
theorem at_set2 (hp : RIn p) (hf : f < p.funcs.length) {n : ByteArray} (hn : n ∈ KN p f) (b : Bool) (t : Tab) : (atOf (fcAt p f) t).set (idxV (FcN p f) n) b = atOf (fcAt p f) (aset n b t) := by
  obtain ⟨_, _, v, h3, rfl⟩ := findN_word hp hf hn
  exact (at_set (hp.fn f hf).nm.nd h3 b t).symm
theorem DX.ok {t : Tab} {h' : Option Nat} (hk : DKeep M M' kc h) (hf : DFresh M h h') (hd : DIn M' kc h' p f (atOf (fcAt p f) t) 0 g) : DX p f M kc h (.ok t g) M' := ⟨h', _, 0, g, hk, hf, hd, rfl, rfl, rfl⟩
theorem DX.err {c : Int} {h' : Option Nat} (hk : DKeep M M' kc h) (hf : DFresh M h h') (hd : DIn M' kc h' p f l c g) (hl : l.length = (FcN p f).length) (hc : c ≠ 0) : DX p f M kc h (.err c) M' := ⟨h', l, c, g, hk, hf, hd, rfl, hc, hl⟩
def StmtsR (p : Pg) (n : Nat) : Prop := ∀ (f : Nat) (l : List Sm) (t : Tab) (g : Int) (x : Rs) (M : List Blk) (kc : Nat) (h : Option Nat), f < p.funcs.length → gM p n f l t g = some x → smsWOk p f (KN p f) l = true → smsNm (KN p f) (AN p f) l = true → Keys t = KN p f → smsCount l ≤ 2^40 → GoneIn g →
  DIn M kc h p f (atOf (fcAt p f) t) 0 g → ACalls Try.prog 62 [.bp kc 0, Sm.sl l] M (fun r M' => r = .ret (.tup []) ∧ DX p f M kc h x M')
def roundM (p : Pg) (m f : Nat) (s : Sm) (t : Tab) (g : Int) : Option Rs :=
  if s.kind = 4 then (match s.e.lev t (arrT p.regions (fcAt p f)) with | some false => gM p m f s.body t g | _ => some (.err 10)) else gM p m f s.body (aset s.name false t) g
theorem rround_ok (p : Pg) (hp : RIn p) (m : Nat) (ih : StmtsR p m) (f : Nat) (hf : f < p.funcs.length) (s : Sm) (hk : s.kind = 4 ∨ s.kind = 5) (hs : SmW p f (KN p f) s) (hsn : SmN (KN p f) (AN p f) s) (hc : s.count ≤ 2^40) (t : Tab) (g : Int) (x : Rs) (hx : roundM p m f s t g = some x) (ht : Keys t = KN p f) (hg : GoneIn g)
    (M : List Blk) (kc : Nat) (h : Option Nat) (hd : DIn M kc h p f (atOf (fcAt p f) t) 0 g) : ACalls Try.prog 100 [.bp kc 0, .agg s.cells] M (fun r M' => r = .ret (.tup []) ∧ DX p f M kc h x M') := by
  refine acalls_of_vc (hn := fun _ => false) (od := fun _ => none) Try.func100 rfl (by kernel_rfl) ?_
  obtain ⟨Q, hQ⟩ : ∃ Q : AE → List Blk → Prop, Q = fun r M' => r = .ret (.tup []) ∧ DX p f M kc h x M' := ⟨_, rfl⟩
  have fin : ∀ M', DX p f M kc h x M' → Q (.ret (.tup [])) M' := fun M' hh => by rw [hQ]; exact ⟨rfl, hh⟩
  rw [← hQ]
  clear hQ
  have hcs := Sm.count_eq s
  have hsb : (M ++ [Blk.box 71 s.cells])[M.length]? = some (.box 71 s.cells) := by simp
  have hd1 := hd.app [Blk.box 71 s.cells]
  have hk1 : DKeep M (M ++ [Blk.box 71 s.cells]) kc h := (DKeep.refl _ _ _).app _
  obtain ⟨M1, hM1⟩ : ∃ M1, M1 = M ++ [Blk.box 71 s.cells] := ⟨_, rfl⟩
  rw [← hM1] at hsb hd1 hk1
  simp only [Sm.cells_eq] at hsb hM1
  have hb1 := hd1.box
  simp -dsimp
  rw [← hM1]
  clear hM1
  by_cases k4 : s.kind = 4
  · have ce := dexpr2 hp hf t s.e (by omega) hsn.e hd1
    simp only [Ex.cells_eq] at ce
    simp -dsimp [hsb, k4]
    refine acallsW_of ce ?_
    rintro r M2 ⟨rfl, hd2, hk2⟩
    have hl := exM_lev t (arrT p.regions (fcAt p f)) s.e
    unfold roundM at hx
    rw [if_pos k4, hl] at hx
    obtain ⟨q, hq⟩ : ∃ q, q = s.e.exM t (arrT p.regions (fcAt p f)) := ⟨_, rfl⟩
    rw [← hq] at hx hd2 ⊢
    clear hq hl
    obtain ⟨sv, bad⟩ := q
    have hsb2 := hd1.old (hk2.weak h) hsb (by decide)
    have hb2 := hd2.box
    simp only [chkB, chkC] at hb2
    have hk02 := hk1.trans (.inl rfl) (hk2.weak h)
    cases sv
    · cases bad
      · simp only [Bool.false_eq_true, if_false] at hx
        simp only [failE_no] at hd2 hb2
        simp -dsimp [hsb2, hb2]
        refine acallsW_of (ih f s.body t g x M2 kc h hf hx (hs.body (.inr (.inl k4))) hsn.body ht (by omega) hg hd2) ?_
        rintro r M3 ⟨rfl, hx3⟩
        simp -dsimp
        exact fin _ (DX.trans hk02 (.inl rfl) hx3)
      · simp only [if_true] at hx
        obtain rfl := Option.some.inj hx
        have h10 : failE true 0 = 10 := rfl
        simp only [h10] at hd2 hb2
        simp -dsimp [hsb2, hb2]
        exact fin _ (DX.err hk02 (.inl rfl) hd2 (at_len _ _) (by decide))
    · have hx10 : x = .err 10 := by
        cases bad
        · simp only [Bool.false_eq_true, if_false] at hx; exact (Option.some.inj hx).symm
        · simp only [if_true] at hx; exact (Option.some.inj hx).symm
      subst hx10
      have cf := dfail2 hd2 10
      have e10 : (if failE bad 0 = 0 then (10 : Int) else failE bad 0) = 10 := by cases bad <;> rfl
      rw [e10] at cf
      simp -dsimp [hsb2]
      refine acallsW_of cf ?_
      rintro r M3 ⟨rfl, hd3, hk3⟩
      have hb3 := hd3.box
      simp only [chkB, chkC] at hb3
      simp -dsimp [hb3]
      exact fin _ (DX.err (hk02.trans (.inl rfl) (hk3.weak h)) (.inl rfl) hd3 (at_len _ _) (by decide))
  · have k5 : s.kind = 5 := hk.resolve_left k4
    have k4b : (s.kind == 4) = false := by simpa using k4
    have hn := hs.word (.inr k5)
    have ce := dset2 hp hf hd1 s.name hn (at_len _ _) false
    rw [at_set2 hp hf hn] at ce
    unfold roundM at hx
    rw [if_neg k4] at hx
    simp -dsimp [hsb, k4b]
    refine acallsW_of ce ?_
    rintro r M2 ⟨rfl, hd2, hk2⟩
    have hsb2 := hd1.old hk2 hsb (by decide)
    have hb2 := hd2.box
    simp only [chkB, chkC] at hb2
    simp -dsimp [hsb2, hb2]
    refine acallsW_of (ih f s.body _ g x M2 kc h hf hx (hs.body (.inr (.inr k5))) hsn.body (by rw [keys_aset _ _ _ (by rw [ht]; exact hn), ht]) (by omega) hg hd2) ?_
    rintro r M3 ⟨rfl, hx3⟩
    simp -dsimp
    exact fin _ (DX.trans (hk1.trans (.inl rfl) hk2) (.inl rfl) hx3)
end Go.Proofs
namespace Go.Proofs
open Go.Mu
def argsBad (t ar : Tab) : List Ex → List Vr → Bool
  | [], _ => false
  | e :: l, vs => ((e.exM t ar).2 || ((e.exM t ar).1 && !((vs.head?.map (·.secret)).getD false))) || argsBad t ar l vs.tail
theorem argsLev_bad (t ar : Tab) : ∀ (l : List Ex) (vs : List Vr), argsLev t ar l vs = if argsBad t ar l vs = true then none else some ()
  | [], vs => rfl
  | e :: l, vs => by
    rw [argsLev, argsBad, exM_lev, argsLev_bad t ar l vs.tail]
    generalize Ex.exM t ar e = q
    obtain ⟨s, b⟩ := q
    generalize (Option.map (fun x => x.secret) vs.head?).getD false = c
    generalize argsBad t ar l vs.tail = d
    cases s <;> cases b <;> cases c <;> cases d <;> rfl
theorem failE_10 (b : Bool) : (if failE b 0 = 0 then (10 : Int) else failE b 0) = 10 := by cases b <;> rfl
theorem failE_t (e : Int) : (if e = 0 then (10 : Int) else e) = failE true e := by unfold failE; simp
theorem at_ge (p : Pg) (f : Nat) (t : Tab) : (atOf (fcAt p f) t).length = (FcN p f).length := at_len _ _
theorem fnNo_atL (s : ByteArray) : ∀ (l : List Fc), (fnNo s l < l.length → ∃ F, l[fnNo s l]? = some F ∧ F.name = s) ∧ ∀ (k : Nat) F, k < fnNo s l → l[k]? = some F → F.name ≠ s
  | [] => ⟨fun h => by simp at h, fun k F h => by simp [fnNo] at h⟩
  | F :: l => by
    obtain ⟨h1, h2⟩ := fnNo_atL s l
    by_cases e : F.name = s
    · rw [fnNo, if_pos e]
      exact ⟨fun _ => ⟨F, rfl, e⟩, fun k G h => by omega⟩
    · rw [fnNo, if_neg e]
      refine ⟨fun h => ?_, fun k G h hk => ?_⟩
      · obtain ⟨G, hG, he⟩ := h1 (by simpa using h)
        exact ⟨G, by simpa using hG, he⟩
      · cases k with
        | zero => simp at hk; rw [← hk]; exact e
        | succ k => exact h2 k G (by omega) (by simpa using hk)
theorem fnNo_at (s : ByteArray) (p : Pg) (h : fnNo s p.funcs < p.funcs.length) : (fcAt p (fnNo s p.funcs)).name = s := by
  obtain ⟨F, h1, h2⟩ := (fnNo_atL s p.funcs).1 h
  rw [fcAt, h1]; exact h2
theorem fnNo_lt (s : ByteArray) (p : Pg) (k : Nat) (h : k < fnNo s p.funcs) (hk : k < p.funcs.length) : (fcAt p k).name ≠ s := (fnNo_atL s p.funcs).2 k _ h (fcAt_get hk).1
theorem DX.fe {M M' : List Blk} {kc : Nat} {h h' : Option Nat} {p : Pg} {f : Nat} {t : Tab} {g : Int} (b : Bool) (hk : DKeep M M' kc h) (hf : DFresh M h h') (hd : DIn M' kc h' p f (atOf (fcAt p f) t) (failE b 0) g) : DX p f M kc h (if b = true then .err 10 else .ok t g) M' := by
  cases b
  · exact DX.ok hk hf hd
  · exact DX.err hk hf hd (at_len _ _) (by decide)
theorem rstmts_err {M : List Blk} {kc : Nat} {h : Option Nat} {p : Pg} {f : Nat} {k : List Bool} {e g : Int} (hd : DIn M kc h p f k e g) (he : e ≠ 0) (l : List Sm) : ACalls Try.prog 62 [.bp kc 0, Sm.sl l] M (fun r M' => r = .ret (.tup []) ∧ M' = M) := by
  refine acalls_of_vc (hn := fun d => d == 56 || d == 57 || d == 96 || d == 134 || d == 292) (od := fun i => if i = 9 then some [(0, []), (1, []), (2, []), (3, []), (4, []), (5, []), (6, [1, 2]), (7, [])] else none) Try.func62 rfl (by kernel_rfl) ?_
  have hb := hd.box
  simp only [chkB, chkC] at hb
  have hne : (e == 0) = false := by simpa using he
  simp -dsimp
  refine loop_rule (hn := fun d => d == 56 || d == 57 || d == 96 || d == 134 || d == 292) (od := fun i => if i = 9 then some [(0, []), (1, []), (2, []), (3, []), (4, []), (5, []), (6, [1, 2]), (7, [])] else none) (fun (y : Unit) q H' => H' = M ∧ q 0 = .bp kc 0 ∧ q 1 = Sm.sl l ∧ q 4 = I 0) (fun y => 0) (by kernel_rfl) () ⟨rfl, by simp, by simp, by simp⟩ ?_
  rintro _ q _ ⟨rfl, q0, q1, q4⟩
  simp -dsimp [q0, q1, q4]
  refine guardVW_introTD (fun hlt => ?_) (fun hlt => ?_)
  · simp -dsimp [q0, q1, q4, hb, hlt, hne]
  · simp -dsimp [hlt]
theorem els_any {p : Pg} {m f : Nat} (ihm : StmtsR p m) (hf : f < p.funcs.length) {l : List Sm} {t : Tab} {y1 z : Rs} {M : List Blk} {kc : Nat} {h : Option Nat} {e1 g1 : Int} (hw : smsWOk p f (KN p f) l = true) (hn : smsNm (KN p f) (AN p f) l = true) (ht : Keys t = KN p f) (hc : smsCount l ≤ 2^40)
    (hz : bindR (some y1) (fun _ g1 => gM p m f l t g1) = some z) (hd : DIn M kc h p f (atOf (fcAt p f) t) e1 g1) (he : match y1 with | .ok _ g => e1 = 0 ∧ g1 = g ∧ GoneIn g | .err c => e1 = c ∧ c ≠ 0) :
    ACalls Try.prog 62 [.bp kc 0, Sm.sl l] M (fun r M' => r = .ret (.tup []) ∧ DX p f M kc h z M') := by
  cases y1 with
  | ok t1 g2 =>
    obtain ⟨rfl, rfl, hg⟩ := he
    exact ihm f l t g1 z M kc h hf hz hw hn ht hc hg hd
  | err c =>
    obtain ⟨rfl, hc⟩ := he
    obtain rfl := Option.some.inj hz
    refine ACalls.mono (rstmts_err hd hc l) ?_
    rintro r M' ⟨rfl, rfl⟩
    exact ⟨rfl, DX.err (.refl _ _ _) (.inl rfl) hd (at_len _ _) hc⟩
theorem New.ne {M : List Blk} {kc : Nat} {h ha : Option Nat} {p : Pg} {f : Nat} {k : List Bool} {e g : Int} (hn : New M.length ha) (hd : DIn M kc h p f k e g) : ∀ i, ha = some i → i ≠ kc ∧ h ≠ some i := fun i hi => by
  have h1 := hn i hi
  have h2 := lt_of_get hd.box
  refine ⟨by omega, fun e => ?_⟩
  have := lt_of_get (hd.row.row i e)
  omega
theorem DIn.rowlt {M : List Blk} {h : Option Nat} {k : List Bool} (hr : BRow M h k) : ∀ i, h = some i → i < M.length := fun i hi => lt_of_get (hr.row i hi)
theorem DIn.other {M : List Blk} {kc k : Nat} {h : Option Nat} {p : Pg} {f : Nat} {l : List Bool} {e g : Int} (hd : DIn M kc h p f l e g) (h1 : kc ≠ k) (h2 : h ≠ some k) (X : Blk) : DIn (M.set k X) kc h p f l e g :=
  ⟨by rw [get_set_ne (fun e => h1 e.symm)]; exact hd.box, hd.row.setK h2 X⟩
theorem DIn.kept {M M' : List Blk} {kc k2 : Nat} {h h2 : Option Nat} {p : Pg} {f : Nat} {l : List Bool} {e g : Int} (hd : DIn M kc h p f l e g) (hk : DKeep M M' k2 h2) (h1 : kc ≠ k2) (h3 : h2 ≠ some kc) (h4 : ∀ i, h = some i → i ≠ k2 ∧ h2 ≠ some i) : DIn M' kc h p f l e g :=
  ⟨hk.old hd.box h1 h3, hd.row.keep hk h4⟩
theorem rstmts_step (p : Pg) (hp : RIn p) (n : Nat) (ih : ∀ m, m < n → StmtsR p m) : StmtsR p n := by
  intro f l t0 g0 x M kc h0 hf hx hw hnm hK0 hc hg hd
  refine acalls_of_vc (hn := fun d => d == 56 || d == 57 || d == 96 || d == 134 || d == 292) (od := fun i => if i = 9 then some [(0, []), (1, []), (2, []), (3, []), (4, []), (5, []), (6, [1, 2]), (7, [])] else none) Try.func62 rfl (by kernel_rfl) ?_
  obtain ⟨Q, hQ⟩ : ∃ Q : AE → List Blk → Prop, Q = fun r M' => r = .ret (.tup []) ∧ DX p f M kc h0 x M' := ⟨_, rfl⟩
  have fin : ∀ M', DX p f M kc h0 x M' → Q (.ret (.tup [])) M' := fun M' hh => by rw [hQ]; exact ⟨rfl, hh⟩
  rw [← hQ]
  clear hQ
  have hll : l.length ≤ smsCount l := sms_len l
  have hAK : ∀ t, (atOf (fcAt p f) t).length ≤ 64 := fun t => by rw [at_len]; have := (hp.fn f hf).words; simpa [allV] using this
  obtain ⟨J, hJ⟩ : ∃ J : Nat → Nat → List Blk → Prop, J = fun m i H' => m ≤ n ∧ ((∃ t g h', gM p m f (l.drop i) t g = some x ∧ Keys t = KN p f ∧ GoneIn g ∧ DKeep M H' kc h0 ∧ DFresh M h0 h' ∧ DIn H' kc h' p f (atOf (fcAt p f) t) 0 g) ∨ (∃ c, x = .err c ∧ DX p f M kc h0 x H')) := ⟨_, rfl⟩
  have hJe : ∀ m i H', J m i H' ↔ m ≤ n ∧ ((∃ t g h', gM p m f (l.drop i) t g = some x ∧ Keys t = KN p f ∧ GoneIn g ∧ DKeep M H' kc h0 ∧ DFresh M h0 h' ∧ DIn H' kc h' p f (atOf (fcAt p f) t) 0 g) ∨ (∃ c, x = .err c ∧ DX p f M kc h0 x H')) := fun m i H' => by rw [hJ]
  clear hJ
  simp -dsimp
  refine loop_rule (hn := fun d => d == 56 || d == 57 || d == 96 || d == 134 || d == 292) (od := fun i => if i = 9 then some [(0, []), (1, []), (2, []), (3, []), (4, []), (5, []), (6, [1, 2]), (7, [])] else none) (fun (y : Nat × Nat) q H' => J y.1 y.2 H' ∧ q 0 = .bp kc 0 ∧ q 1 = Sm.sl l ∧ q 4 = I y.2 ∧ y.2 ≤ l.length) (fun y => l.length - y.2) (by kernel_rfl) (n, 0)
    ⟨(hJe _ _ _).2 ⟨Nat.le_refl _, .inl ⟨t0, g0, h0, hx, hK0, hg, .refl _ _ _, .inl rfl, hd⟩⟩, by simp, by simp, by simp, by simp⟩ ?_
  clear hx hK0 hg hd
  rintro ⟨m, i⟩ q H' ⟨hj, q0, q1, q4, hi⟩
  simp only at hj q4 hi
  obtain ⟨hmn, ⟨t, g, h, hx, ht, hg, hk, hfr, hd⟩ | ⟨c, hxc, hdx⟩⟩ := (hJe _ _ _).1 hj
  rotate_left
  · clear hj
    have hdx' := hdx
    obtain ⟨h', l', e', g', _, _, hd', hr'⟩ := hdx'
    rw [hxc] at hr'
    obtain ⟨rfl, hc0, _⟩ := hr'
    have hb := hd'.box
    simp only [chkB, chkC] at hb
    have hne : (e' == 0) = false := by simpa using hc0
    simp -dsimp [q0, q1, q4]
    refine guardVW_introTD (fun hlt => ?_) (fun hlt => ?_)
    · simp -dsimp [q0, q1, q4, hb, hlt, hne]
      exact fin _ hdx
    · simp -dsimp [hlt]
      exact fin _ hdx
  clear hj
  cases m with
  | zero => cases hx
  | succ m =>
  have hb := hd.box
  simp only [chkB, chkC] at hb
  by_cases hlt' : i < l.length
  rotate_left
  · rw [drop_end (by omega), gM] at hx
    obtain rfl := Option.some.inj hx
    have hlt : ¬ ((i : Int) < l.length) := by omega
    simp -dsimp [q0, q1, q4, hlt]
    exact fin _ (DX.ok hk hfr hd)
  have hlt : ((i : Int) < l.length) := by omega
  have hwi : IntKind.i64.wrap ((i : Int) + 1) = ((i + 1 : Nat) : Int) := wrapS (by omega)
  have hsx := List.getElem?_eq_getElem hlt'
  have hsw := smsWOk_drop hw hlt'
  have hsn := smsNm_get hnm hlt'
  have hsc := sms_get_le hlt'
  rw [drop_cons hlt', gM] at hx
  obtain ⟨s, hs⟩ : ∃ s, s = l[i] := ⟨_, rfl⟩
  rw [← hs] at hx hsx hsw hsn hsc
  clear hs
  have hcs := Sm.count_eq s
  have ihm := ih m (by omega)
  have hsl : (l.map Sm.cells)[i]? = some s.cells := by rw [List.getElem?_map, hsx]; rfl
  have hw1 : IntKind.i64.wrap (g + 1) = g + 1 := by unfold GoneIn at hg; exact wrapI (by omega) (by omega)
  obtain ⟨bS, hbS⟩ : ∃ bS, bS = Blk.box 71 s.cells := ⟨_, rfl⟩
  obtain ⟨M1, hM1⟩ : ∃ M1, M1 = H' ++ [bS] := ⟨_, rfl⟩
  obtain ⟨M2, hM2⟩ : ∃ M2, M2 = M1.set kc (chkB p f (rowX h (atOf (fcAt p f) t).length) 0 (g + 1)) := ⟨_, rfl⟩
  have hd1 : DIn M1 kc h p f (atOf (fcAt p f) t) 0 g := by rw [hM1]; exact hd.app _
  have hd2 : DIn M2 kc h p f (atOf (fcAt p f) t) 0 (g + 1) := by rw [hM2]; exact hd1.setE 0 (g + 1)
  have hsb1 : M1[H'.length]? = some bS := by rw [hM1]; simp
  have hsb : M2[H'.length]? = some bS := by rw [hM2, get_set_ne (by have := lt_of_get hd.box; omega)]; exact hsb1
  have hk2 : DKeep M M2 kc h0 := by rw [hM2, hM1]; exact (hk.app _).set (.inl rfl) _
  have hb1 := hd1.box
  have hb2 := hd2.box
  simp only [chkB, chkC] at hb1 hb2 hM2
  have hkS : kc ≠ H'.length := by have := lt_of_get hd.box; omega
  rw [hbS] at hsb hM1
  clear hbS hsb1 hd1
  simp only [Sm.cells_eq] at hsl hsb hM1
  simp -dsimp [q0, q1, q4, hlt, hb, hsl]
  rw [← hM1]
  simp -dsimp [q0, hb1, hw1]
  rw [← hM2]
  simp -dsimp [hb2]
  clear hM1 hM2 hb1 hsl
  refine condVW_introD (fun hgt => ?_) (fun hgt => ?_)
  · rw [if_pos (by omega)] at hx
    obtain rfl := Option.some.inj hx
    have cf := dfail2 hd2 13
    rw [if_pos rfl] at cf
    simp -dsimp [q0]
    refine acallsW_of cf ?_
    rintro r M3 ⟨rfl, hd3, hk3⟩
    simp -dsimp
    exact fin _ (DX.err (hk2.trans hfr (hk3.weak h)) hfr hd3 (at_len _ _) (by decide))
  rw [if_neg (by omega)] at hx
  have hg1 : GoneIn (g + 1) := by unfold GoneIn at *; omega
  have next : ∀ y M3, stM p (gM p m) m f s t (g + 1) = some y → DX p f M2 kc h y M3 → J m (i + 1) M3 := by
    intro y M3 hy hdx
    rw [hy] at hx
    refine (hJe _ _ _).2 ⟨by omega, ?_⟩
    cases y with
    | err c =>
      simp only [bindR, Option.some.injEq] at hx
      exact .inr ⟨c, hx.symm, DX.trans hk2 hfr (by rw [← hx]; exact hdx)⟩
    | ok t1 g1 =>
      simp only [bindR] at hx
      obtain ⟨h', l', e', g', a, b, cc, rfl, rfl, rfl⟩ := hdx
      have hone : gM p (m + 1) f [s] t g = some (.ok t1 g') := by
        rw [gM, if_neg (by omega), hy]
        simp only [bindR]
        cases m with
        | zero => cases hx
        | succ m => rfl
      have hw1s : smsWOk p f (Keys t) [s] = true := by rw [smsWOk, smsWOk, Bool.and_true, wOk_iff, ht]; exact hsw
      exact .inl ⟨t1, _, h', hx, by rw [gM_keys _ _ _ _ _ _ _ hw1s hone, ht], gM_gone _ _ _ _ _ _ _ hg hone, hk2.trans hfr a, DFresh.trans hk2.len hfr b, cc⟩
  have stop : ∀ c M3, stM p (gM p m) m f s t (g + 1) = some (.err c) → DX p f M2 kc h (.err c) M3 → DX p f M kc h0 x M3 := by
    intro c M3 hy hdx
    rw [hy] at hx
    simp only [bindR, Option.some.injEq] at hx
    rw [← hx]
    exact DX.trans hk2 hfr hdx
  have hnn : ∀ (F : Option Rs), stM p (gM p m) m f s t (g + 1) = F → ∃ y, F = some y := by
    intro F hF
    rw [hF] at hx
    cases F with
    | none => cases hx
    | some y => exact ⟨y, rfl⟩
  have go : ∀ M3, DKeep M2 M3 kc h → M3[H'.length]? = some (.box 71 [I s.kind, St s.name, St.sl s.names, I s.e.op, U s.e.word, St s.e.name, Ex.sl s.e.args, I s.a.op, U s.a.word, St s.a.name, Ex.sl s.a.args, Ex.sl s.args, U s.low, U s.high, Sm.sl s.body, Sm.sl s.els]) := fun M3 h3 => hd2.old h3 hsb (by decide)
  clear hx hJe
  obtain ⟨ar, har⟩ : ∃ ar, ar = arrT p.regions (fcAt p f) := ⟨_, rfl⟩
  have cex := fun (x : Ex) (h1 : x.count ≤ 2^40) (h2 : x.nm (KN p f) (AN p f) = true) (M : List Blk) (e : Int) (hd : DIn M kc h p f (atOf (fcAt p f) t) e (g + 1)) => dexpr2 hp hf t x h1 h2 hd
  rw [← har] at cex
  simp only [Ex.cells_eq] at cex
  simp -dsimp [q0, hsb]
  refine condVW_introE (fun k1 => ?_) (fun k1 k1b k1c => ?_)
  · simp -dsimp [q0, hsb]
    refine acallsW_of (cex s.e (by omega) hsn.e _ _ hd2) ?_
    rintro r M3 ⟨rfl, hd3, hk3⟩
    have hS : stM p (gM p m) m f s t (g + 1) = some (if (s.e.exM t ar).2 = true then .err 10 else .ok (aset s.name (s.e.exM t ar).1 t) (g + 1)) := by
      unfold stM; simp only; rw [if_pos k1, ← har, exM_lev]; cases (s.e.exM t ar).2 <;> rfl
    have hn := hsw.word (.inl k1)
    have cs := dset2 hp hf hd3 s.name hn (at_len _ _) (s.e.exM t ar).1
    rw [at_set2 hp hf hn] at cs
    have hsb3 := go _ (hk3.weak h)
    simp -dsimp [q0, hsb3]
    refine acallsW_of cs ?_
    rintro r M4 ⟨rfl, hd4, hk4⟩
    have hdx := DX.fe _ ((hk3.weak h).trans (.inl rfl) hk4) (.inl rfl) hd4
    simp -dsimp [q0, q1, q4]
    exact ⟨m, i + 1, by omega, next _ _ hS hdx, hwi, by omega⟩
  simp -dsimp
  refine condVW_introE (fun k2 => ?_) (fun k2 k2b k2c => ?_)
  · obtain ⟨av, hav⟩ : ∃ av, av = lookB s.name ar := ⟨_, rfl⟩
    obtain ⟨sA, bA, hA⟩ : ∃ sA bA, s.a.exM t ar = (sA, bA) := ⟨_, _, rfl⟩
    obtain ⟨sE, bE, hE⟩ : ∃ sE bE, s.e.exM t ar = (sE, bE) := ⟨_, _, rfl⟩
    have hS : stM p (gM p m) m f s t (g + 1) = some (if (bA || sA || bE || (sE && !av)) = true then .err 10 else .ok t (g + 1)) := by
      unfold stM; simp only; rw [if_neg k1, if_pos k2, ← har, exM_lev, exM_lev, hA, hE, ← hav]
      cases bA <;> cases sA <;> cases bE <;> cases sE <;> cases av <;> rfl
    have endS : ∀ e M3, e = failE (bA || sA || bE || (sE && !av)) 0 → DIn M3 kc h p f (atOf (fcAt p f) t) e (g + 1) → DKeep M2 M3 kc h → J m (i + 1) M3 := fun e M3 he hd3 hk3 => next _ _ hS (DX.fe _ hk3 (.inl rfl) (he ▸ hd3))
    have ca := cex s.a (by omega) hsn.a _ _ hd2
    rw [hA] at ca
    simp only at ca
    have ceE := cex s.e (by omega) hsn.e
    rw [hE] at ceE
    simp only at ceE
    have carr := fun M e (hd : DIn M kc h p f (atOf (fcAt p f) t) e (g + 1)) => rarr_ok hp hf hd s.name (hsn.arr k2)
    rw [← har, ← hav] at carr
    simp -dsimp [q0, hsb]
    refine acallsW_of ca ?_
    rintro r M3 ⟨rfl, hd3, hk3⟩
    have hk3 := hk3.weak h
    have hsb3 := go _ hk3
    cases sA
    · simp -dsimp [q0, hsb3]
      refine acallsW_of (ceE _ _ hd3) ?_
      rintro r M5 ⟨rfl, hd5, hk5⟩
      have hk5 := hk3.trans (.inl rfl) (hk5.weak h)
      have hsb5 := go _ hk5
      have hb5 := hd5.box
      cases sE
      · simp -dsimp [q0, q1, q4, hsb5]
        exact ⟨m, i + 1, by omega, endS _ _ (by cases bA <;> cases bE <;> cases av <;> rfl) hd5 hk5, hwi, by omega⟩
      · simp -dsimp [q0, q1, q4, hsb5]
        refine acallsW_det (carr _ _ hd5) ?_
        cases av
        · simp -dsimp [q0, q1, q4, hsb5]
          refine acallsW_of (dfail2 hd5 10) ?_
          rintro r M6 ⟨rfl, hd6, hk6⟩
          simp -dsimp [q0, q1, q4]
          exact ⟨m, i + 1, by omega, endS _ _ (by cases bA <;> cases bE <;> rfl) hd6 (hk5.trans (.inl rfl) (hk6.weak h)), hwi, by omega⟩
        · simp -dsimp [q0, q1, q4, hsb5]
          exact ⟨m, i + 1, by omega, endS _ _ (by cases bA <;> cases bE <;> rfl) hd5 hk5, hwi, by omega⟩
    · simp -dsimp [q0, hsb3]
      refine acallsW_of (dfail2 hd3 10) ?_
      rintro r M4 ⟨rfl, hd4, hk4⟩
      rw [failE_t, ← failE_or] at hd4
      have hk4 := hk3.trans (.inl rfl) (hk4.weak h)
      have hsb4 := go _ hk4
      simp -dsimp [q0, hsb4]
      refine acallsW_of (ceE _ _ hd4) ?_
      rintro r M5 ⟨rfl, hd5, hk5⟩
      have hk5 := hk4.trans (.inl rfl) (hk5.weak h)
      have hsb5 := go _ hk5
      have hb5 := hd5.box
      cases sE
      · simp -dsimp [q0, q1, q4, hsb5]
        exact ⟨m, i + 1, by omega, endS _ _ (by cases bA <;> cases bE <;> cases av <;> rfl) hd5 hk5, hwi, by omega⟩
      · simp -dsimp [q0, q1, q4, hsb5]
        refine acallsW_det (carr _ _ hd5) ?_
        cases av
        · simp -dsimp [q0, q1, q4, hsb5]
          refine acallsW_of (dfail2 hd5 10) ?_
          rintro r M6 ⟨rfl, hd6, hk6⟩
          simp -dsimp [q0, q1, q4]
          exact ⟨m, i + 1, by omega, endS _ _ (by cases bA <;> cases bE <;> rfl) hd6 (hk5.trans (.inl rfl) (hk6.weak h)), hwi, by omega⟩
        · simp -dsimp [q0, q1, q4, hsb5]
          exact ⟨m, i + 1, by omega, endS _ _ (by cases bA <;> cases bE <;> rfl) hd5 hk5, hwi, by omega⟩
  simp -dsimp
  refine condVW_introE (fun k3 => ?_) (fun k3 k3b k3c => ?_)
  · have hS : stM p (gM p m) m f s t (g + 1) = (match s.e.lev t ar with
          | some false => bindR (gM p m f s.body t (g + 1)) fun t1 g1 => bindR (gM p m f s.els t g1) fun t2 g2 => some (.ok (joinT t2 t1) g2)
          | _ => some (.err 10)) := by
      unfold stM; simp only [← har]; rw [if_neg k1, if_neg k2, if_pos k3]; rfl
    rw [exM_lev] at hS
    have ce := cex s.e (by omega) hsn.e _ _ hd2
    obtain ⟨sE, bE, hE⟩ : ∃ sE bE, s.e.exM t ar = (sE, bE) := ⟨_, _, rfl⟩
    rw [hE] at ce hS
    simp only at ce hS
    simp -dsimp [q0, hsb]
    refine acallsW_of ce ?_
    rintro r M3 ⟨rfl, hd3, hk3⟩
    have hk3 := hk3.weak h
    have hsb3 := go _ hk3
    have hb3 := hd3.box
    simp only [chkB, chkC] at hb3
    cases sE
    rotate_left
    · have hS2 : stM p (gM p m) m f s t (g + 1) = some (.err 10) := by rw [hS]; cases bE <;> rfl
      have cf := dfail2 hd3 10
      rw [failE_10] at cf
      simp -dsimp [q0, hsb3]
      refine acallsW_of cf ?_
      rintro r M4 ⟨rfl, hd4, hk4⟩
      have hb4 := hd4.box
      simp only [chkB, chkC] at hb4
      simp -dsimp [q0, hb4]
      exact fin _ (stop _ _ hS2 (DX.err (hk3.trans (.inl rfl) (hk4.weak h)) (.inl rfl) hd4 (at_len _ _) (by decide)))
    cases bE
    rotate_left
    · have h10 : failE true 0 = 10 := rfl
      rw [h10] at hd3 hb3
      simp -dsimp [q0, hb3]
      exact fin _ (stop _ _ hS (DX.err hk3 (.inl rfl) hd3 (at_len _ _) (by decide)))
    rw [failE_no] at hd3 hb3
    simp only [Bool.false_eq_true, if_false] at hS
    obtain ⟨Y, hY⟩ := hnn _ hS
    have hS := hS.trans hY
    obtain ⟨y1, hy1⟩ : ∃ y1, gM p m f s.body t (g + 1) = some y1 := by
      cases h1 : gM p m f s.body t (g + 1) with
      | none => rw [h1] at hY; cases hY
      | some y => exact ⟨y, rfl⟩
    rw [hy1] at hY
    obtain ⟨z, hz⟩ : ∃ z, bindR (some y1) (fun _ g1 => gM p m f s.els t g1) = some z := by
      cases y1 with
      | err c => exact ⟨_, rfl⟩
      | ok t1 g1 =>
        simp only [bindR] at hY ⊢
        cases h1 : gM p m f s.els t g1 with
        | none => rw [h1] at hY; cases hY
        | some y => exact ⟨y, rfl⟩
    have hsrc := srcEs_brow hd3.row
    have hA64 := hAK t
    simp -dsimp [q0, hb3, hsrc]
    refine app_brow (h := none) (l := []) (n := 0) (M := M3) (ys := atOf (fcAt p f) t) ⟨fun _ h => (by cases h), fun _ => rfl⟩ rfl (fun _ h => (by cases h)) (.refl _) rfl rfl (by decide) (by simp; omega) (fun ha M4 hra hna hpa _ _ => ?_)
    rw [List.nil_append] at hra
    rw [Nat.zero_add]
    have hd4 := hpa.din hd3
    have hk4 := hk3.pre hpa
    have hane := hna.ne hd3
    have hsb4 := go _ hk4
    simp -dsimp [q0, hsb4]
    refine acallsW_of (ihm f s.body t (g + 1) y1 M4 kc h hf hy1 (hsw.body (.inl k3)) hsn.body ht (by omega) hg1 hd4) ?_
    rintro r M5 ⟨rfl, h1, l1, e1, g1, hk5, hf5, hd5, hz5⟩
    have hra5 := hra.keep hk5 hane
    have hk25 := hk4.trans (.inl rfl) hk5
    have hsb5 := go _ hk25
    have hl1 : l1.length = (FcN p f).length := by
      cases y1 with
      | ok _ _ => rw [hz5.1]; exact at_len _ _
      | err _ => exact hz5.2.2
    have hb5 := hd5.box
    simp only [chkB, chkC] at hb5
    obtain ⟨M6, hM6⟩ : ∃ M6, M6 = M5.set kc (chkB p f (rowX ha (atOf (fcAt p f) t).length) e1 g1) := ⟨_, rfl⟩
    have hd6 : DIn M6 kc ha p f (atOf (fcAt p f) t) e1 g1 := by rw [hM6]; exact hd5.setR hra5
    have hr1 : BRow M6 h1 l1 := by rw [hM6]; exact hd5.row.setK hd5.ne _
    have hk26 : DKeep M2 M6 kc h := by rw [hM6]; exact hk25.set (.inl rfl) _
    have hsb6 := go _ hk26
    have hb6 := hd6.box
    simp only [chkB, chkC] at hb6 hM6
    simp -dsimp [q0, hb5]
    rw [← hM6]
    clear hM6
    simp -dsimp [q0, hsb6]
    refine acallsW_of (els_any ihm hf (hsw.els k3) hsn.els ht (by omega) hz hd6 (by
      cases y1 with
      | ok t1 g2 => exact ⟨hz5.2.1, hz5.2.2, gM_gone _ _ _ _ _ _ _ hg1 hy1⟩
      | err c => exact ⟨hz5.1, hz5.2.1⟩)) ?_
    rintro r M7 ⟨rfl, h2, l2, e2, g2, hk7, hf7, hd7, hz7⟩
    have hr7 : BRow M7 h1 l1 := hr1.keep hk7 (fun i hi => by
      refine ⟨fun e => hd5.ne (by rw [hi, e]), fun e => ?_⟩
      have a := hane i e
      rcases hf5 with h5 | h5
      · exact a.2 (by rw [← h5]; exact hi)
      · have b := h5 i hi
        have c := DIn.rowlt hra i e
        omega)
    have hl2 : l2.length = (FcN p f).length := by
      cases z with
      | ok _ _ => rw [hz7.1]; exact at_len _ _
      | err _ => exact hz7.2.2
    have hA := at_ge p f t
    have hf27 : DFresh M2 h h2 := by
      have hlen := hk3.len
      have hlen4 := hk4.len
      have hlen6 := hk26.len
      rcases hf7 with h7 | h7
      · rw [h7]; exact .inr fun i hi => Nat.le_trans hlen (hna i hi)
      · exact .inr fun i hi => Nat.le_trans hlen6 (h7 i hi)
    have hb7 := hd7.box
    simp only [chkB, chkC] at hb7
    have hk27 : DKeep M2 M7 kc h := by
      refine hk26.trans ?_ hk7
      exact .inr fun i hi => Nat.le_trans hk3.len (hna i hi)
    simp -dsimp [q0, hb7]
    refine acallsW_of (rjoin_ok l2 l1 M7 h2 h1 hd7.row hr7 (hl2.trans hl1.symm) (by omega)) ?_
    rintro r M8 ⟨hj, rfl, hrj, hnj, hpj⟩
    have hd8 := hpj.din hd7
    have hd9 := hd8.setR hrj
    have hb8 := hd8.box
    simp only [chkB, chkC] at hb8 hd9
    have hk29 := (hk27.pre hpj).set (k := kc) (.inl rfl) (.box 119 (chkC p f (rowX hj (zipOr l2 l1).length) e2 g2))
    have hfj : DFresh M2 h hj := .inr fun i hi => Nat.le_trans hk27.len (hnj i hi)
    have hdx : DX p f M2 kc h Y (M8.set kc (.box 119 (chkC p f (rowX hj (zipOr l2 l1).length) e2 g2))) := by
      cases y1 with
      | err c =>
        obtain rfl := Option.some.inj hY
        obtain rfl := Option.some.inj hz
        obtain ⟨rfl, hc0, _⟩ := hz7
        exact DX.err hk29 hfj hd9 (by rw [zipOr_len (hl2.trans hl1.symm), hl2]) hc0
      | ok t1 g3 =>
        simp only [bindR] at hY hz
        rw [hz] at hY
        cases z with
        | err c =>
          obtain rfl := Option.some.inj hY
          obtain ⟨rfl, hc0, _⟩ := hz7
          exact DX.err hk29 hfj hd9 (by rw [zipOr_len (hl2.trans hl1.symm), hl2]) hc0
        | ok t2 g4 =>
          obtain rfl := Option.some.inj hY
          obtain ⟨rfl, rfl, rfl⟩ := hz7
          obtain ⟨rfl, rfl, rfl⟩ := hz5
          have hkk : Keys t2 = Keys t1 := by
            rw [gM_keys m _ _ _ _ _ _ (by rw [ht]; exact hsw.els k3) hz, gM_keys m _ _ _ _ _ _ (by rw [ht]; exact hsw.body (.inl k3)) hy1]
          rw [← at_join hkk] at hd9 hk29 ⊢
          exact DX.ok hk29 hfj hd9
    simp only [chkC] at hdx
    simp -dsimp [q0, q1, q4, hb8]
    exact ⟨m, i + 1, by omega, next _ _ hS hdx, hwi, by omega⟩
  simp -dsimp
  refine condVW_introE (fun k4 => ?_) (fun k4 k4b k4c => ?_)
  · have hk45 : s.kind = 4 ∨ s.kind = 5 := .inl k4
    have ka : (s.kind == 4) = true := by simpa using k4
    have kt : (s.kind == 5) = false := by simpa using (by omega : ¬ s.kind = 5)
    have hS : stM p (gM p m) m f s t (g + 1) = leastM (roundM p m f s) m t (g + 1) := by
      unfold stM; simp only [← har]; rw [if_neg k1, if_neg k2, if_neg k3, if_pos k4]
      congr 1
      funext t g
      unfold roundM
      rw [if_pos k4, ← har]
      rfl
    obtain ⟨Y, hY⟩ := hnn _ hS
    have hS := hS.trans hY
    obtain ⟨y, hy⟩ : ∃ y, leastM (roundM p m f s) m t (g + 1) = some y := by
      cases h1 : leastM (roundM p m f s) m t (g + 1) with
      | none => rw [h1] at hY; cases hY
      | some y => exact ⟨y, rfl⟩
    rw [hy] at hY
    have hRk : ∀ t g t1 g1, roundM p m f s t g = some (.ok t1 g1) → Keys t = KN p f → GoneIn g → Keys t1 = KN p f ∧ GoneIn g1 := by
      intro t2 g2 t3 g3 h1 h2 h3
      unfold roundM at h1
      rw [if_pos k4] at h1
      split at h1
      · exact ⟨by rw [gM_keys m _ _ _ _ _ _ (by rw [h2]; exact hsw.body (.inr (.inl k4))) h1, h2], gM_gone _ _ _ _ _ _ _ h3 h1⟩
      · cases h1
    -- the loop
    obtain ⟨I2, hI2⟩ : ∃ I2 : Nat → List Blk → Prop, I2 = fun v X => (∃ t g h', leastM (roundM p m f s) v t g = some y ∧ Keys t = KN p f ∧ GoneIn g ∧ DKeep M2 X kc h ∧ DFresh M2 h h' ∧ DIn X kc h' p f (atOf (fcAt p f) t) 0 g) ∨ (∃ c, y = .err c ∧ DX p f M2 kc h y X) := ⟨_, rfl⟩
    have hI2e : ∀ v X, I2 v X ↔ (∃ t g h', leastM (roundM p m f s) v t g = some y ∧ Keys t = KN p f ∧ GoneIn g ∧ DKeep M2 X kc h ∧ DFresh M2 h h' ∧ DIn X kc h' p f (atOf (fcAt p f) t) 0 g) ∨ (∃ c, y = .err c ∧ DX p f M2 kc h y X) := fun v X => by rw [hI2]
    clear hI2
    have i20 : I2 m M2 := (hI2e _ _).2 (.inl ⟨t, g + 1, h, hy, ht, hg1, .refl _ _ _, .inl rfl, hd2⟩)
    clear hy
    simp -dsimp [q0, q1, q4, hsb, ka]
    refine loop_rule (hn := fun d => d == 56 || d == 57 || d == 96 || d == 134 || d == 292) (od := fun i => if i = 9 then some [(0, []), (1, []), (2, []), (3, []), (4, []), (5, []), (6, [1, 2]), (7, [])] else none) (fun (v : Nat) q X => I2 v X ∧ q 0 = .bp kc 0 ∧ q 1 = Sm.sl l ∧ q 4 = I i ∧ q 5 = .bp H'.length 0) (fun v => v) (by kernel_rfl) m ⟨i20, by simp [q0], by simp [q1], by simp [q4], by simp⟩ ?_
    clear i20 q0 q1 q4 q
    rintro v q X ⟨hi2, q0, q1, q4, q5⟩
    rcases (hI2e _ _).1 hi2 with ⟨tv, gv, hv, hyv, htv, hgv, hkv, hfv, hdv⟩ | ⟨c, rfl, hdx⟩
    rotate_left
    · clear hi2
      have hdx' := hdx
      obtain ⟨h', l', e', g', hk', hf', hd', hr'⟩ := hdx'
      obtain ⟨rfl, hc0, hl'⟩ := hr'
      have hbE := hd'.box
      simp only [chkB, chkC] at hbE
      have hne : (e' == 0) = false := by simpa using hc0
      have hsbE := go _ hk'
      simp -dsimp [q0, q1, q4, q5, hbE, hne, hsbE, kt]
      obtain rfl := Option.some.inj hY
      exact ⟨m, i + 1, by omega, next _ _ hS hdx, hwi, by omega⟩
    clear hi2
    cases v with
    | zero => cases hyv
    | succ v =>
    have hbv := hdv.box
    simp only [chkB, chkC] at hbv
    have hsrc := srcEs_brow hdv.row
    have hA64 := hAK tv
    rw [leastM] at hyv
    obtain ⟨y1, hy1⟩ : ∃ y1, roundM p m f s tv gv = some y1 := by
      cases h1 : roundM p m f s tv gv with
      | none => rw [h1] at hyv; cases hyv
      | some y => exact ⟨y, rfl⟩
    rw [hy1] at hyv
    simp -dsimp [q0, q5, hbv, hsrc]
    refine app_brow (h := none) (l := []) (n := 0) (M := X) (ys := atOf (fcAt p f) tv) ⟨fun _ h => (by cases h), fun _ => rfl⟩ rfl (fun _ h => (by cases h)) (.refl _) rfl rfl (by decide) (by simp; omega) (fun ha M4 hra hna hpa _ _ => ?_)
    rw [List.nil_append] at hra
    rw [Nat.zero_add]
    have hd4 := hpa.din hdv
    have hk4 := hkv.pre hpa
    have hane := hna.ne hdv
    have hsb4 := go _ hk4
    have cr := rround_ok p hp m ihm f hf s hk45 hsw hsn (by omega) tv gv y1 hy1 htv hgv M4 kc hv hd4
    simp only [Sm.cells_eq] at cr
    simp -dsimp [q0, q5, hsb4]
    refine acallsW_of cr ?_
    rintro r M5 ⟨rfl, h1, l1, e1, g1, hk5, hf5, hd5, hz5⟩
    have hra5 := hra.keep hk5 hane
    have hk25 := hk4.trans hfv hk5
    have hb5 := hd5.box
    simp only [chkB, chkC] at hb5
    have hA := at_ge p f tv
    have hl1 : l1.length = (FcN p f).length := by
      cases y1 with
      | ok _ _ => rw [hz5.1]; exact at_len _ _
      | err _ => exact hz5.2.2
    simp -dsimp [q0, q5, hb5]
    refine acallsW_of (rjoin_ok (atOf (fcAt p f) tv) l1 M5 ha h1 hra5 hd5.row (hA.trans hl1.symm) hA64) ?_
    rintro r M6 ⟨hj, rfl, hrj, hnj, hpj⟩
    have hd6 := hpj.din hd5
    have hb6 := hd6.box
    obtain ⟨lz, hlz⟩ : ∃ lz, lz = zipOr (atOf (fcAt p f) tv) l1 := ⟨_, rfl⟩
    have hlzl : lz.length = (FcN p f).length := by rw [hlz, zipOr_len (hA.trans hl1.symm), hA]
    rw [← hlz] at hrj ⊢
    obtain ⟨M7, hM7⟩ : ∃ M7, M7 = M6.set kc (chkB p f (rowX hj lz.length) e1 g1) := ⟨_, rfl⟩
    have hd7 : DIn M7 kc hj p f lz e1 g1 := by rw [hM7]; exact hd6.setR hrj
    have hk27 : DKeep M2 M7 kc h := by rw [hM7]; exact (hk25.pre hpj).set (.inl rfl) _
    have hra7 : BRow M7 ha (atOf (fcAt p f) tv) := by rw [hM7]; exact (hpj.row hra5).setK (fun e => (hane _ e).1 rfl) _
    have hf7 : DFresh M2 h hj := .inr fun i hi => Nat.le_trans hk25.len (hnj i hi)
    have hsb7 := go _ hk27
    have hb7 := hd7.box
    simp only [chkB, chkC] at hb6 hb7 hM7
    simp -dsimp [q0, q5, hb6]
    rw [← hM7]
    clear hM7
    simp -dsimp [q0, q5, hb7]
    refine acallsW_det (dequal_ok (atOf (fcAt p f) tv) lz M7 ha hj hra7 hd7.row (hA.trans hlzl.symm) hA64) ?_
    have key : (atOf (fcAt p f) tv = lz → DX p f M2 kc h y M7) ∧ (¬ atOf (fcAt p f) tv = lz → I2 v M7) := by
      cases y1 with
      | err c =>
        obtain rfl := Option.some.inj hyv
        obtain ⟨rfl, hc0, _⟩ := hz5
        have hdx := DX.err hk27 hf7 hd7 hlzl hc0
        exact ⟨fun _ => hdx, fun _ => (hI2e _ _).2 (.inr ⟨_, rfl, hdx⟩)⟩
      | ok t1 g3 =>
        obtain ⟨rfl, rfl, rfl⟩ := hz5
        simp only [bindR] at hyv
        obtain ⟨ht1, hg3⟩ := hRk _ _ _ _ hy1 htv hgv
        have hkk : Keys tv = Keys t1 := htv.trans ht1.symm
        have hjk := joinT_keys hkk
        rw [← at_join hkk] at hlz
        have heq := at_eq (hp.fn f hf).nm (a := tv) (b := joinT tv t1) htv (hjk.trans htv) (enter_keys p hp.sec hf).1
        rw [← hlz] at heq
        rw [hlz] at hd7
        constructor
        · intro e
          have e2 := heq.1 e
          rw [if_pos e2.symm] at hyv
          obtain rfl := Option.some.inj hyv
          rw [← e2] at hd7
          exact DX.ok hk27 hf7 hd7
        · intro e
          rw [if_neg (fun e2 => e (heq.2 e2.symm))] at hyv
          exact (hI2e _ _).2 (.inl ⟨_, _, _, hyv, hjk.trans htv, hg3, hk27, hf7, hd7⟩)
    by_cases hq : atOf (fcAt p f) tv = lz
    · have hdx := key.1 hq
      simp -dsimp [q0, q1, q4, q5, hq, hsb7, kt]
      obtain rfl := Option.some.inj hY
      exact ⟨m, i + 1, by omega, next _ _ hS hdx, hwi, by omega⟩
    · simp -dsimp [q0, q1, q4, q5, hq]
      exact ⟨v, Nat.lt_succ_self v, key.2 hq⟩
  simp -dsimp
  refine condVW_introE (fun k5 => ?_) (fun k5 k5b k5c => ?_)
  · have hk45 : s.kind = 4 ∨ s.kind = 5 := .inr k5
    have ka : (s.kind == 5) = true := by simpa using k5
    have kt : (s.kind == 5) = true := by simpa using k5
    have hS : stM p (gM p m) m f s t (g + 1) = bindR (leastM (roundM p m f s) m t (g + 1)) (fun t g => some (.ok (aset s.name false t) g)) := by
      unfold stM; simp only; rw [if_neg k1, if_neg k2, if_neg k3, if_neg k4, if_pos k5]
      congr 1
      congr 1
      funext t g
      unfold roundM
      rw [if_neg k4]
    obtain ⟨Y, hY⟩ := hnn _ hS
    have hS := hS.trans hY
    obtain ⟨y, hy⟩ : ∃ y, leastM (roundM p m f s) m t (g + 1) = some y := by
      cases h1 : leastM (roundM p m f s) m t (g + 1) with
      | none => rw [h1] at hY; cases hY
      | some y => exact ⟨y, rfl⟩
    rw [hy] at hY
    have hRk : ∀ t g t1 g1, roundM p m f s t g = some (.ok t1 g1) → Keys t = KN p f → GoneIn g → Keys t1 = KN p f ∧ GoneIn g1 := by
      intro t2 g2 t3 g3 h1 h2 h3
      unfold roundM at h1
      have hka : Keys (aset s.name false t2) = KN p f := by rw [keys_aset _ _ _ (by rw [h2]; exact hsw.word (.inr k5)), h2]
      rw [if_neg k4] at h1
      exact ⟨by rw [gM_keys m _ _ _ _ _ _ (by rw [hka]; exact hsw.body (.inr (.inr k5))) h1, hka], gM_gone _ _ _ _ _ _ _ h3 h1⟩
    -- the loop
    obtain ⟨I2, hI2⟩ : ∃ I2 : Nat → List Blk → Prop, I2 = fun v X => (∃ t g h', leastM (roundM p m f s) v t g = some y ∧ Keys t = KN p f ∧ GoneIn g ∧ DKeep M2 X kc h ∧ DFresh M2 h h' ∧ DIn X kc h' p f (atOf (fcAt p f) t) 0 g) ∨ (∃ c, y = .err c ∧ DX p f M2 kc h y X) := ⟨_, rfl⟩
    have hI2e : ∀ v X, I2 v X ↔ (∃ t g h', leastM (roundM p m f s) v t g = some y ∧ Keys t = KN p f ∧ GoneIn g ∧ DKeep M2 X kc h ∧ DFresh M2 h h' ∧ DIn X kc h' p f (atOf (fcAt p f) t) 0 g) ∨ (∃ c, y = .err c ∧ DX p f M2 kc h y X) := fun v X => by rw [hI2]
    clear hI2
    have i20 : I2 m M2 := (hI2e _ _).2 (.inl ⟨t, g + 1, h, hy, ht, hg1, .refl _ _ _, .inl rfl, hd2⟩)
    clear hy
    simp -dsimp [q0, q1, q4, hsb, ka]
    refine loop_rule (hn := fun d => d == 56 || d == 57 || d == 96 || d == 134 || d == 292) (od := fun i => if i = 9 then some [(0, []), (1, []), (2, []), (3, []), (4, []), (5, []), (6, [1, 2]), (7, [])] else none) (fun (v : Nat) q X => I2 v X ∧ q 0 = .bp kc 0 ∧ q 1 = Sm.sl l ∧ q 4 = I i ∧ q 5 = .bp H'.length 0) (fun v => v) (by kernel_rfl) m ⟨i20, by simp [q0], by simp [q1], by simp [q4], by simp⟩ ?_
    clear i20 q0 q1 q4 q
    rintro v q X ⟨hi2, q0, q1, q4, q5⟩
    rcases (hI2e _ _).1 hi2 with ⟨tv, gv, hv, hyv, htv, hgv, hkv, hfv, hdv⟩ | ⟨c, rfl, hdx⟩
    rotate_left
    · clear hi2
      have hdx' := hdx
      obtain ⟨h', l', e', g', hk', hf', hd', hr'⟩ := hdx'
      obtain ⟨rfl, hc0, hl'⟩ := hr'
      have hbE := hd'.box
      simp only [chkB, chkC] at hbE
      have hne : (e' == 0) = false := by simpa using hc0
      have hsbE := go _ hk'
      simp -dsimp [q0, q1, q4, q5, hbE, hne, hsbE, kt]
      have hn := hsw.word (.inr k5)
      refine acallsW_of (dset2 hp hf hd' s.name hn hl' false) ?_
      rintro r M9 ⟨rfl, hd9, hk9⟩
      obtain rfl := Option.some.inj hY
      have hdx2 := DX.err (hk'.trans hf' hk9) hf' hd9 (by simpa using hl') hc0
      simp -dsimp [q0, q1, q4]
      exact ⟨m, i + 1, by omega, next _ _ hS hdx2, hwi, by omega⟩
    clear hi2
    cases v with
    | zero => cases hyv
    | succ v =>
    have hbv := hdv.box
    simp only [chkB, chkC] at hbv
    have hsrc := srcEs_brow hdv.row
    have hA64 := hAK tv
    rw [leastM] at hyv
    obtain ⟨y1, hy1⟩ : ∃ y1, roundM p m f s tv gv = some y1 := by
      cases h1 : roundM p m f s tv gv with
      | none => rw [h1] at hyv; cases hyv
      | some y => exact ⟨y, rfl⟩
    rw [hy1] at hyv
    simp -dsimp [q0, q5, hbv, hsrc]
    refine app_brow (h := none) (l := []) (n := 0) (M := X) (ys := atOf (fcAt p f) tv) ⟨fun _ h => (by cases h), fun _ => rfl⟩ rfl (fun _ h => (by cases h)) (.refl _) rfl rfl (by decide) (by simp; omega) (fun ha M4 hra hna hpa _ _ => ?_)
    rw [List.nil_append] at hra
    rw [Nat.zero_add]
    have hd4 := hpa.din hdv
    have hk4 := hkv.pre hpa
    have hane := hna.ne hdv
    have hsb4 := go _ hk4
    have cr := rround_ok p hp m ihm f hf s hk45 hsw hsn (by omega) tv gv y1 hy1 htv hgv M4 kc hv hd4
    simp only [Sm.cells_eq] at cr
    simp -dsimp [q0, q5, hsb4]
    refine acallsW_of cr ?_
    rintro r M5 ⟨rfl, h1, l1, e1, g1, hk5, hf5, hd5, hz5⟩
    have hra5 := hra.keep hk5 hane
    have hk25 := hk4.trans hfv hk5
    have hb5 := hd5.box
    simp only [chkB, chkC] at hb5
    have hA := at_ge p f tv
    have hl1 : l1.length = (FcN p f).length := by
      cases y1 with
      | ok _ _ => rw [hz5.1]; exact at_len _ _
      | err _ => exact hz5.2.2
    simp -dsimp [q0, q5, hb5]
    refine acallsW_of (rjoin_ok (atOf (fcAt p f) tv) l1 M5 ha h1 hra5 hd5.row (hA.trans hl1.symm) hA64) ?_
    rintro r M6 ⟨hj, rfl, hrj, hnj, hpj⟩
    have hd6 := hpj.din hd5
    have hb6 := hd6.box
    obtain ⟨lz, hlz⟩ : ∃ lz, lz = zipOr (atOf (fcAt p f) tv) l1 := ⟨_, rfl⟩
    have hlzl : lz.length = (FcN p f).length := by rw [hlz, zipOr_len (hA.trans hl1.symm), hA]
    rw [← hlz] at hrj ⊢
    obtain ⟨M7, hM7⟩ : ∃ M7, M7 = M6.set kc (chkB p f (rowX hj lz.length) e1 g1) := ⟨_, rfl⟩
    have hd7 : DIn M7 kc hj p f lz e1 g1 := by rw [hM7]; exact hd6.setR hrj
    have hk27 : DKeep M2 M7 kc h := by rw [hM7]; exact (hk25.pre hpj).set (.inl rfl) _
    have hra7 : BRow M7 ha (atOf (fcAt p f) tv) := by rw [hM7]; exact (hpj.row hra5).setK (fun e => (hane _ e).1 rfl) _
    have hf7 : DFresh M2 h hj := .inr fun i hi => Nat.le_trans hk25.len (hnj i hi)
    have hsb7 := go _ hk27
    have hb7 := hd7.box
    simp only [chkB, chkC] at hb6 hb7 hM7
    simp -dsimp [q0, q5, hb6]
    rw [← hM7]
    clear hM7
    simp -dsimp [q0, q5, hb7]
    refine acallsW_det (dequal_ok (atOf (fcAt p f) tv) lz M7 ha hj hra7 hd7.row (hA.trans hlzl.symm) hA64) ?_
    have key : (atOf (fcAt p f) tv = lz → DX p f M2 kc h y M7) ∧ (¬ atOf (fcAt p f) tv = lz → I2 v M7) := by
      cases y1 with
      | err c =>
        obtain rfl := Option.some.inj hyv
        obtain ⟨rfl, hc0, _⟩ := hz5
        have hdx := DX.err hk27 hf7 hd7 hlzl hc0
        exact ⟨fun _ => hdx, fun _ => (hI2e _ _).2 (.inr ⟨_, rfl, hdx⟩)⟩
      | ok t1 g3 =>
        obtain ⟨rfl, rfl, rfl⟩ := hz5
        simp only [bindR] at hyv
        obtain ⟨ht1, hg3⟩ := hRk _ _ _ _ hy1 htv hgv
        have hkk : Keys tv = Keys t1 := htv.trans ht1.symm
        have hjk := joinT_keys hkk
        rw [← at_join hkk] at hlz
        have heq := at_eq (hp.fn f hf).nm (a := tv) (b := joinT tv t1) htv (hjk.trans htv) (enter_keys p hp.sec hf).1
        rw [← hlz] at heq
        rw [hlz] at hd7
        constructor
        · intro e
          have e2 := heq.1 e
          rw [if_pos e2.symm] at hyv
          obtain rfl := Option.some.inj hyv
          rw [← e2] at hd7
          exact DX.ok hk27 hf7 hd7
        · intro e
          rw [if_neg (fun e2 => e (heq.2 e2.symm))] at hyv
          exact (hI2e _ _).2 (.inl ⟨_, _, _, hyv, hjk.trans htv, hg3, hk27, hf7, hd7⟩)
    by_cases hq : atOf (fcAt p f) tv = lz
    · have hdx := key.1 hq
      simp -dsimp [q0, q1, q4, q5, hq, hsb7, kt]
      obtain ⟨h', l', e', g', hk', hf', hd', hr'⟩ := hdx
      have hl' : l'.length = (FcN p f).length := by
        cases y with
        | ok _ _ => rw [hr'.1]; exact at_len _ _
        | err _ => exact hr'.2.2
      have hn := hsw.word (.inr k5)
      refine acallsW_of (dset2 hp hf hd' s.name hn hl' false) ?_
      rintro r M9 ⟨rfl, hd9, hk9⟩
      have hdx2 : DX p f M2 kc h Y M9 := by
        cases y with
        | err c =>
          obtain rfl := Option.some.inj hY
          obtain ⟨rfl, hc0, _⟩ := hr'
          exact DX.err (hk'.trans hf' hk9) hf' hd9 (by simpa using hl') hc0
        | ok t1 g3 =>
          obtain ⟨rfl, rfl, rfl⟩ := hr'
          obtain rfl := Option.some.inj hY
          rw [at_set2 hp hf hn] at hd9
          exact DX.ok (hk'.trans hf' hk9) hf' hd9
      simp -dsimp [q0, q1, q4]
      exact ⟨m, i + 1, by omega, next _ _ hS hdx2, hwi, by omega⟩
    · simp -dsimp [q0, q1, q4, q5, hq]
      exact ⟨v, Nat.lt_succ_self v, key.2 hq⟩
  simp -dsimp
  refine condVW_introE (fun k6 => ?_) (fun k6 k6b k6c => ?_)
  rotate_left
  · have hS : stM p (gM p m) m f s t (g + 1) = some (.ok t (g + 1)) := by
      unfold stM; simp only; rw [if_neg k1, if_neg k2, if_neg k3, if_neg k4, if_neg k5, if_neg k6]
    simp -dsimp [q0, q1, q4]
    exact ⟨m, i + 1, by omega, next _ _ hS (DX.ok (.refl _ _ _) (.inl rfl) hd2), hwi, by omega⟩
  have hS : stM p (gM p m) m f s t (g + 1) = callM p (gM p m) f s t (g + 1) := by
    unfold stM; simp only; rw [if_neg k1, if_neg k2, if_neg k3, if_neg k4, if_neg k5, if_pos k6]
  obtain ⟨Y, hY⟩ := hnn _ hS
  have hS := hS.trans hY
  have hjf := hsw.fn k6
  have hargs := hsw.args k6
  have hnames := hsw.names k6
  have htold := hsw.told k6
  have hjat := fnNo_at s.name p
  have hjlt := fnNo_lt s.name p
  unfold callM at hY
  rw [argsLev_bad, ← har] at hY
  obtain ⟨j, hj⟩ : ∃ j, j = fnNo s.name p.funcs := ⟨_, rfl⟩
  rw [← hj] at hjf hargs hnames hjat hjlt hY
  clear hj
  have hjl : j < p.funcs.length := by omega
  have hjN := hjat hjl
  obtain ⟨hGf, hGm⟩ := fcAt_get hjl
  have hGn := hp.fn j hjl
  have hGb := hp.sec.body _ hGm
  have hGc : (p.funcs.map Fc.cells)[j]? = some [St (fcAt p j).name, Vr.sl (fcAt p j).params, Vr.sl (fcAt p j).vars, St.sl (fcAt p j).rets, Sm.sl (fcAt p j).body] := by rw [List.getElem?_map, hGf]; rfl
  have hfl := hp.sec.funcs
  have hal : s.args.length ≤ exsCount s.args := exs_len s.args
  simp -dsimp [q0, q1, q4]
  refine loop_rule (hn := fun d => d == 56 || d == 57 || d == 96 || d == 134 || d == 292) (od := fun i => if i = 9 then some [(0, []), (1, []), (2, []), (3, []), (4, []), (5, []), (6, [1, 2]), (7, [])] else none) (fun (k : Nat) q X => X = M2 ∧ q 0 = .bp kc 0 ∧ q 1 = Sm.sl l ∧ q 4 = I i ∧ q 5 = .bp H'.length 0 ∧ q 9 = I k ∧ k ≤ j) (fun k => j - k) (by kernel_rfl) 0 (by simp [q0, q1, q4]) ?_
  clear q0 q1 q4 q
  rintro k q X ⟨hX, q0, q1, q4, q5, q9, hkj⟩
  subst hX
  have hkl : k < p.funcs.length := by omega
  have hkc : (p.funcs.map Fc.cells)[k]? = some [St (fcAt p k).name, Vr.sl (fcAt p k).params, Vr.sl (fcAt p k).vars, St.sl (fcAt p k).rets, Sm.sl (fcAt p k).body] := by rw [List.getElem?_map, (fcAt_get hkl).1]; rfl
  by_cases hkeq : k < j
  · have hne := hjlt k hkeq hkl
    have wk : IntKind.i64.wrap ((k : Int) + 1) = ((k + 1 : Nat) : Int) := wrapS (by omega)
    simp -dsimp [q0, q1, q4, q5, q9, hb2, hsb, hkc, hne]
    exact ⟨k + 1, by omega, wk, by omega⟩
  obtain rfl : k = j := by omega
  clear hkj hkc hkl hkeq hjat hjlt
  simp -dsimp [q0, q1, q4, q5, q9, hb2, hsb, hGc, hjN]
  -- the arguments
  obtain ⟨tot, htot⟩ : ∃ tot, tot = argsBad t ar s.args (fcAt p k).params := ⟨_, rfl⟩
  rw [← htot] at hY
  obtain ⟨I3, hI3⟩ : ∃ I3 : Nat → List Blk → Prop, I3 = fun v Z => v ≤ s.args.length ∧ ∃ e, DIn Z kc h p f (atOf (fcAt p f) t) e (g + 1) ∧ DKeep X Z kc h ∧ failE (argsBad t ar (s.args.drop v) ((fcAt p k).params.drop v)) e = failE tot 0 := ⟨_, rfl⟩
  have hI3e : ∀ v Z, I3 v Z ↔ v ≤ s.args.length ∧ ∃ e, DIn Z kc h p f (atOf (fcAt p f) t) e (g + 1) ∧ DKeep X Z kc h ∧ failE (argsBad t ar (s.args.drop v) ((fcAt p k).params.drop v)) e = failE tot 0 := fun v Z => by rw [hI3]
  clear hI3
  have i30 : I3 0 X := (hI3e _ _).2 ⟨by omega, 0, hd2, .refl _ _ _, by rw [htot]; rfl⟩
  clear htot
  refine loop_rule (hn := fun d => d == 56 || d == 57 || d == 96 || d == 134 || d == 292) (od := fun i => if i = 9 then some [(0, []), (1, []), (2, []), (3, []), (4, []), (5, []), (6, [1, 2]), (7, [])] else none) (fun (v : Nat) q Z => I3 v Z ∧ q 0 = .bp kc 0 ∧ q 1 = Sm.sl l ∧ q 4 = I i ∧ q 5 = .bp H'.length 0 ∧ q 9 = I k ∧ q 10 = I v) (fun v => s.args.length - v) (by kernel_rfl) 0 ⟨i30, by simp [q0], by simp [q1], by simp [q4], by simp [q5], by simp [q9], by simp⟩ ?_
  clear i30 q0 q1 q4 q5 q9 q
  rintro v q M3 ⟨hi3, q0, q1, q4, q5, q9, q10⟩
  obtain ⟨hva, e, hd3, hk3, he3⟩ := (hI3e _ _).1 hi3
  clear hi3
  have hsb3 := go _ hk3
  have hb3 := hd3.box
  simp only [chkB, chkC] at hb3
  by_cases hvl : v < s.args.length
  · have hvl' : ((v : Int) < s.args.length) := by omega
    have hax := List.getElem?_eq_getElem hvl
    have hay := exs_get_le hvl
    have han := exsNm_get hsn.args hvl
    have hvp : v < (fcAt p k).params.length := by omega
    have hpx := List.getElem?_eq_getElem hvp
    rw [drop_cons hvl, drop_cons hvp, argsBad, List.head?_cons, List.tail_cons] at he3
    obtain ⟨a, ha⟩ : ∃ a, a = s.args[v] := ⟨_, rfl⟩
    obtain ⟨pv, hpv⟩ : ∃ pv, pv = (fcAt p k).params[v] := ⟨_, rfl⟩
    rw [← ha] at hax hay han he3
    rw [← hpv] at hpx he3
    clear ha hpv
    have hac : (s.args.map Ex.cells)[v]? = some [I a.op, U a.word, St a.name, Ex.sl a.args] := by rw [List.getElem?_map, hax, Option.map_some, Ex.cells_eq]
    have hpc : ((fcAt p k).params.map Vr.cells)[v]? = some [St pv.name, I pv.kind, I pv.size, Bo pv.secret] := by rw [List.getElem?_map, hpx]; rfl
    have wv : IntKind.i64.wrap ((v : Int) + 1) = ((v + 1 : Nat) : Int) := wrapS (by omega)
    have ce := cex a (by omega) han _ _ hd3
    obtain ⟨sE, bE, hE⟩ : ∃ sE bE, a.exM t ar = (sE, bE) := ⟨_, _, rfl⟩
    rw [hE] at ce he3
    simp only [Option.map_some, Option.getD_some] at ce he3
    obtain ⟨se, hse⟩ : ∃ se, se = pv.secret := ⟨_, rfl⟩
    rw [← hse] at hpc he3
    rw [failE_or] at he3
    simp -dsimp [q0, q5, q10, hsb3, hvl', hac]
    refine acallsW_of ce ?_
    rintro r M4 ⟨rfl, hd4, hk4⟩
    have hk4 := hk3.trans (.inl rfl) (hk4.weak h)
    have hb4 := hd4.box
    simp only [chkB, chkC] at hb4
    cases sE
    · simp only [Bool.false_and, Bool.or_false] at he3
      simp -dsimp [q0, q1, q4, q5, q9, q10]
      exact ⟨v + 1, by omega, (hI3e _ _).2 ⟨by omega, _, hd4, hk4, he3⟩, wv⟩
    · cases se
      · simp only [Bool.not_false, Bool.and_self, Bool.or_true] at he3
        have cf := dfail2 hd4 10
        rw [failE_t, ← failE_or, Bool.or_true] at cf
        simp -dsimp [q0, q9, q10, hb4, hGc, hpc]
        refine acallsW_of cf ?_
        rintro r M5 ⟨rfl, hd5, hk5⟩
        simp -dsimp [q0, q1, q4, q5, q9, q10]
        exact ⟨v + 1, by omega, (hI3e _ _).2 ⟨by omega, _, hd5, hk4.trans (.inl rfl) (hk5.weak h), he3⟩, wv⟩
      · simp only [Bool.not_true, Bool.and_false, Bool.or_false] at he3
        simp -dsimp [q0, q1, q4, q5, q9, q10, hb4, hGc, hpc]
        exact ⟨v + 1, by omega, (hI3e _ _).2 ⟨by omega, _, hd4, hk4, he3⟩, wv⟩
  have hvl' : ¬ ((v : Int) < s.args.length) := by omega
  rw [List.drop_eq_nil_of_le (by omega), argsBad, failE_no] at he3
  subst he3
  clear hI3e
  cases tot
  rotate_left
  · obtain rfl := Option.some.inj hY
    have h10 : failE true 0 = 10 := rfl
    rw [h10] at hd3 hb3
    simp -dsimp [q0, q5, q10, hsb3, hvl', hb3]
    exact fin _ (stop _ _ hS (DX.err hk3 (.inl rfl) hd3 (at_len _ _) (by decide)))
  rw [failE_no] at hd3 hb3
  simp only [Bool.false_eq_true, if_false] at hY
  obtain ⟨y1, hy1⟩ : ∃ y1, gM p m k (fcAt p k).body (enterT (fcAt p k)) (g + 1) = some y1 := by
    cases h1 : gM p m k (fcAt p k).body (enterT (fcAt p k)) (g + 1) with
    | none => rw [h1] at hY; cases hY
    | some y => exact ⟨y, rfl⟩
  rw [hy1] at hY
  have cen := renter_ok p hp k hjl M3
  simp only [Pg.cells] at cen
  simp -dsimp [q0, q5, q9, q10, hsb3, hvl', hb3]
  refine acallsW_of cen ?_
  rintro r M4 ⟨kc2, h2, rfl, hd4o, hpre4, hkc2, hn2⟩
  have hd4 := hpre4.din hd3
  have hkne : kc ≠ kc2 := by have := lt_of_get hd3.box; omega
  have hrow3 : ∀ i, h = some i → i < M3.length := DIn.rowlt hd3.row
  have hb4 := hd4.box
  have hb4o := hd4o.box
  obtain ⟨M5, hM5⟩ : ∃ M5, M5 = M4.set kc2 (chkB p k (rowX h2 (atOf (fcAt p k) (enterT (fcAt p k))).length) 0 (g + 1)) := ⟨_, rfl⟩
  have hd5o : DIn M5 kc2 h2 p k (atOf (fcAt p k) (enterT (fcAt p k))) 0 (g + 1) := by rw [hM5]; exact hd4o.setE 0 (g + 1)
  have hd5 : DIn M5 kc h p f (atOf (fcAt p f) t) 0 (g + 1) := by rw [hM5]; exact hd4.other hkne (fun e => by have := hrow3 _ e; omega) _
  have hk5 : DKeep X M5 kc h := by rw [hM5]; exact (hk3.pre hpre4).set (.inr (.inr (by have := hk3.len; omega))) _
  have hl5 : M3.length ≤ M5.length := by rw [hM5, List.length_set]; exact hpre4.len
  have hb5 := hd5.box
  simp only [chkB, chkC] at hb4 hb4o hb5 hM5
  simp -dsimp [q0, hb4, hb4o]
  rw [← hM5]
  clear hM5
  simp -dsimp [q0, q9, hb5, hGc]
  refine acallsW_of (ihm k (fcAt p k).body (enterT (fcAt p k)) (g + 1) y1 M5 kc2 h2 hjl hy1 (hp.sec.ok k hjl) hGn.body rfl hGb hg1 hd5o) ?_
  rintro r M6 ⟨rfl, h3, l3, e3, g3, hk6, hf6, hd6o, hz6⟩
  have hap : ∀ i, h3 = some i → M3.length ≤ i := fun i hi => by
    rcases hf6 with h6 | h6
    · exact hn2 i (by rw [← h6]; exact hi)
    · have := h6 i hi; omega
  have hd6 : DIn M6 kc h p f (atOf (fcAt p f) t) 0 (g + 1) := hd5.kept hk6 hkne (fun e => by have := hn2 _ e; have := lt_of_get hd3.box; omega) (fun i hi => ⟨by have := hrow3 i hi; omega, fun e => by have := hn2 _ e; have := hrow3 i hi; omega⟩)
  have hk26 : DKeep X M6 kc h := by
    refine ⟨Nat.le_trans hk5.len hk6.len, fun i hi a b => ?_⟩
    have hx3 := hk3.len
    rw [hk6.get i (by omega) (by omega) (fun e => by have := hn2 _ e; omega), hk5.get i hi a b]
  have hb6 := hd6.box
  have hb6o := hd6o.box
  have hl3 : l3.length = (FcN p k).length := by
    cases y1 with
    | ok _ _ => rw [hz6.1]; exact at_len _ _
    | err _ => exact hz6.2.2
  obtain ⟨M7, hM7⟩ : ∃ M7, M7 = M6.set kc (chkB p f (rowX h (atOf (fcAt p f) t).length) e3 g3) := ⟨_, rfl⟩
  have hd7 : DIn M7 kc h p f (atOf (fcAt p f) t) e3 g3 := by rw [hM7]; exact hd6.setE e3 g3
  have hd7o : DIn M7 kc2 h3 p k l3 e3 g3 := by rw [hM7]; exact hd6o.other (fun e => hkne e.symm) (fun e => by have := hap _ e; have := lt_of_get hd3.box; omega) _
  have hk27 : DKeep X M7 kc h := by rw [hM7]; exact hk26.set (.inl rfl) _
  have hb6s : ∀ B, (M6.set kc B)[kc]? = some B := fun B => get_set_eq hb6
  have hb6t : ∀ B, (M6.set kc B)[kc2]? = M6[kc2]? := fun B => get_set_ne hkne
  simp only [chkB, chkC] at hb6 hb6o hM7
  simp -dsimp [q0, hb6, hb6o, hb6s, hb6t]
  rw [← hM7]
  have hne3 : ∀ i, h3 = some i → i ≠ kc ∧ h ≠ some i := fun i hi => by
    have a := hap i hi
    have b := lt_of_get hd3.box
    refine ⟨by omega, fun e => ?_⟩
    have := hrow3 i e
    omega
  have hnk : h ≠ some kc2 := fun e => by have := hrow3 _ e; omega
  clear hM7 hb6 hb6o hb6s hb6t hd6 hd6o hk26 hb5 hd5 hd5o hk5 hl5 hb4 hb4o hd4 hd4o hpre4 cen hk6 hf6 hap hn2
  obtain ⟨I4, hI4⟩ : ∃ I4 : Nat → List Blk → Prop, I4 = fun v Z => v ≤ s.names.length ∧ ∃ lk, DIn Z kc h p f lk e3 g3 ∧ DIn Z kc2 h3 p k l3 e3 g3 ∧ DKeep X Z kc h ∧ lk.length = (FcN p f).length ∧ (∀ t1 gg, y1 = .ok t1 gg → lk = atOf (fcAt p f) (setsT (((s.names.zip (fcAt p k).rets).map fun x => (x.1, lookB x.2 t1)).take v) t)) := ⟨_, rfl⟩
  have hI4e : ∀ v Z, I4 v Z ↔ v ≤ s.names.length ∧ ∃ lk, DIn Z kc h p f lk e3 g3 ∧ DIn Z kc2 h3 p k l3 e3 g3 ∧ DKeep X Z kc h ∧ lk.length = (FcN p f).length ∧ (∀ t1 gg, y1 = .ok t1 gg → lk = atOf (fcAt p f) (setsT (((s.names.zip (fcAt p k).rets).map fun x => (x.1, lookB x.2 t1)).take v) t)) := fun v Z => by rw [hI4]
  clear hI4
  have i40 : I4 0 M7 := (hI4e _ _).2 ⟨by omega, _, hd7, hd7o, hk27, at_len _ _, fun _ _ _ => rfl⟩
  clear hd7 hd7o hk27
  refine loop_rule (hn := fun d => d == 56 || d == 57 || d == 96 || d == 134 || d == 292) (od := fun i => if i = 9 then some [(0, []), (1, []), (2, []), (3, []), (4, []), (5, []), (6, [1, 2]), (7, [])] else none) (fun (v : Nat) q Z => I4 v Z ∧ q 0 = .bp kc 0 ∧ q 1 = Sm.sl l ∧ q 4 = I i ∧ q 5 = .bp H'.length 0 ∧ q 9 = I k ∧ q 11 = .bp kc2 0 ∧ q 12 = I v) (fun v => s.names.length - v) (by kernel_rfl) 0 ⟨i40, by simp [q0], by simp [q1], by simp [q4], by simp [q5], by simp [q9], by simp, by simp⟩ ?_
  clear i40 q0 q1 q4 q5 q9 q10 q
  rintro v2 q Z ⟨hi4, q0, q1, q4, q5, q9, q11, q12⟩
  obtain ⟨hva2, lk, hd8, hd8o, hk8, hlk, hok⟩ := (hI4e _ _).1 hi4
  clear hi4
  have hsb8 := go _ hk8
  have hb8 := hd8.box
  have hb8o := hd8o.box
  simp only [chkB, chkC] at hb8 hb8o
  have hrl := hGn.rets
  by_cases hvl2 : v2 < s.names.length
  rotate_left
  · have hvl2' : ¬ ((v2 : Int) < s.names.length) := by omega
    have hdx : DX p f X kc h Y Z := by
      cases y1 with
      | err c =>
        obtain rfl := Option.some.inj hY
        obtain ⟨rfl, hc0, _⟩ := hz6
        exact DX.err hk8 (.inl rfl) hd8 hlk hc0
      | ok t1 gg =>
        obtain rfl := Option.some.inj hY
        obtain ⟨_, rfl, rfl⟩ := hz6
        have := hok t1 _ rfl
        rw [List.take_of_length_le (by simp; omega)] at this
        rw [this] at hd8
        exact DX.ok hk8 (.inl rfl) hd8
    simp -dsimp [q0, q1, q4, q5, q12, hsb8, hvl2']
    exact ⟨m, i + 1, by omega, next _ _ hS hdx, hwi, by omega⟩
  have hvl2' : ((v2 : Int) < s.names.length) := by omega
  have hvr : v2 < (fcAt p k).rets.length := by omega
  have hnx := List.getElem?_eq_getElem hvl2
  have hrx := List.getElem?_eq_getElem hvr
  have hnm' := htold _ (List.getElem_mem hvl2)
  have hrm' := hGn.nm.rets _ (List.getElem_mem hvr)
  have wv2 : IntKind.i64.wrap ((v2 : Int) + 1) = ((v2 + 1 : Nat) : Int) := wrapS (by omega)
  obtain ⟨nm, hnme⟩ : ∃ nm, nm = s.names[v2] := ⟨_, rfl⟩
  obtain ⟨rt, hrte⟩ : ∃ rt, rt = (fcAt p k).rets[v2] := ⟨_, rfl⟩
  rw [← hnme] at hnx hnm'
  rw [← hrte] at hrx hrm'
  clear hnme hrte
  have hnc : (s.names.map fun x => [St x])[v2]? = some [St nm] := by rw [List.getElem?_map, hnx]; rfl
  have hrc : ((fcAt p k).rets.map fun x => [St x])[v2]? = some [St rt] := by rw [List.getElem?_map, hrx]; rfl
  have cf := fun H => find2_ok p k rt hp.ok hjl H
  obtain ⟨e1', e2', vv, e3', e4'⟩ := findN_word hp hjl hrm'
  rw [e1', e2'] at cf
  simp only [Pg.cells] at cf
  obtain ⟨idx, hidx⟩ : ∃ idx, idx = idxV (allV (fcAt p k)) rt := ⟨_, rfl⟩
  rw [← hidx] at cf e3'
  have hil3 : idx < l3.length := by rw [hl3]; exact (List.getElem?_eq_some_iff.1 e3').1
  have hbx := List.getElem?_eq_getElem hil3
  obtain ⟨bv, hbv⟩ : ∃ bv, bv = l3[idx] := ⟨_, rfl⟩
  rw [← hbv] at hbx
  clear hbv hidx
  have hbc : (l3.map fun b => [Bo b])[idx]? = some [Bo bv] := by rw [List.getElem?_map, hbx]; rfl
  have cs := dset2 hp hf hd8 nm hnm' hlk bv
  cases h3 with
  | none => have := hd8o.row.nil rfl; subst this; simp at hil3
  | some k3 =>
  have hro := hd8o.row.row k3 rfl
  simp only [bRow] at hro
  simp only [rowX] at hb8o
  simp -dsimp [q0, q5, q9, q12, hsb8, hvl2', hb8, hGc, hrc]
  refine callDW_intro (cf _) ?_
  simp -dsimp [q0, q5, q11, q12, hsb8, hnc, hb8o, hro]
  refine ⟨hil3, ?_⟩
  simp -dsimp [q0, q5, q11, q12, hsb8, hnc, hb8o, hro, hbc]
  refine acallsW_of cs ?_
  rintro r M9 ⟨rfl, hd9, hk9⟩
  have hd9o := hd8o.kept hk9 (fun e => hkne e.symm) hnk hne3
  have hok2 : ∀ t1 gg, y1 = .ok t1 gg → lk.set (idxV (FcN p f) nm) bv = atOf (fcAt p f) (setsT (((s.names.zip (fcAt p k).rets).map fun x => (x.1, lookB x.2 t1)).take (v2 + 1)) t) := by
    intro t1 gg hy
    have h0 := hok t1 gg hy
    subst hy
    obtain ⟨rfl, _, _⟩ := hz6
    have hbe := at_get (F := fcAt p k) (t := t1) e3'
    rw [hbx, e4'] at hbe
    obtain rfl := Option.some.inj hbe
    have hzz : ((s.names.zip (fcAt p k).rets).map fun x => (x.1, lookB x.2 t1))[v2]? = some (nm, lookB rt t1) := by
      rw [List.getElem?_map, (List.getElem?_zip_eq_some (z := (nm, rt))).2 ⟨hnx, hrx⟩]; rfl
    rw [take_get hzz, setsT_app, setsT_one, h0, at_set2 hp hf hnm']
  simp -dsimp [q0, q1, q4, q5, q9, q11, q12]
  exact ⟨v2 + 1, by omega, (hI4e _ _).2 ⟨by omega, _, hd9, hd9o, hk8.trans (.inl rfl) hk9, by simpa using hlk, hok2⟩, wv2⟩
end Go.Proofs
namespace Go.Proofs
open Go.Mu
theorem rstmts_all (p : Pg) (hp : RIn p) (n : Nat) : StmtsR p n := by
  induction n using Nat.strongRecOn with
  | ind n ih => exact rstmts_step p hp n ih
def LevE (p : Pg) (last : Nat) (x : Rs) (l : List Bool) (c : Int) : Prop := match x with | .ok t _ => c = 0 ∧ l = (fcAt p last).rets.map fun r => lookB r t | .err k => c = k ∧ k ≠ 0
theorem pre_pend {H M' : List Blk} {b : Blk} {L : List Blk} (h : ∀ i, i < (H ++ b :: L).length → i < H.length + 1 → M'[i]? = (H ++ b :: L)[i]?) (hl : (H ++ b :: L).length ≤ M'.length) : ∃ L', M' = H ++ b :: L' := by
  have hl2 : H.length + 1 ≤ M'.length := by simp at hl; omega
  refine ⟨M'.drop (H.length + 1), ?_⟩
  apply List.ext_getElem?
  intro i
  by_cases hi : i < H.length + 1
  · rw [h i (by simp; omega) hi]
    by_cases hi2 : i < H.length
    · rw [List.getElem?_append_left hi2, List.getElem?_append_left hi2]
    · obtain rfl : i = H.length := by omega
      simp
  · rw [List.getElem?_append_right (by omega)]
    obtain ⟨j, rfl⟩ : ∃ j, i = H.length + 1 + j := ⟨i - (H.length + 1), by omega⟩
    rw [show H.length + 1 + j - H.length = j + 1 by omega, List.getElem?_cons_succ, List.getElem?_drop]
theorem bo_fin2 {H : List Blk} {R : AE → List Blk → Prop} (hu : underH H.length H = true) (l : List Bool) (n : Int) (L : List Blk) (h : R (.ret (.tup [boS l, I n])) H) :
    WeakE (Tidy H R) (.ret (.tup [ownS H.length (l.map fun b => [Bo b]), I n])) (H ++ ownB 4 1 (l.map fun b => [Bo b]) :: L) := by
  by_cases hw : (l.map fun b => [Bo b]) = []
  · have : l = [] := by simpa using hw
    subst this
    rw [List.map_nil, ownS_nil]
    refine tidy_weak (r' := .tup [boS [], I n]) (.tupL (.cons (.nil 1) (.cons (.refl _) .nil))) ?_
    exact tidy_same rfl h
  · refine tidy_weak (.refl _) ?_
    have hz : (l.map fun b => [Bo b]).flatten.all AV.frzB = true := mapF_frzC (fun b : Bool => [Bo b]) (fun b => by simp [AV.frzB]) l
    refine tidy_give hu 0 1 4 (l.map fun b => [Bo b]) (by rw [ownB, if_neg hw]; rfl) hz ?_
    have hf : (AV.tup [ownS H.length (l.map fun b => [Bo b]), I n]).frz (H.length + 0) 1 (l.map fun b => [Bo b]) = .tup [boS l, I n] := by
      simp only [AV.frz, frzL, Nat.add_zero]; rw [frz_own _ _ _ hw]
    rw [hf]
    exact tidy_same rfl h
theorem rlevels_ok (p : Pg) (hp : RIn p) (n last : Nat) (hl : p.funcs.length = last + 1) (x : Rs) (hx : gM p n last (fcAt p last).body (enterT (fcAt p last)) 0 = some x) (H : List Blk) :
    ACalls Try.prog 23 [.agg p.cells] H (fun e H' => (∃ l c, e = .ret (.tup [boS l, I c]) ∧ LevE p last x l c) ∧ H' = H) := by
  refine acalls_under fun hu _ => acalls_tidy (acalls_weakE (acalls_spare 1 (acalls_of_vc (hn := fun d => d == 60) (od := fun _ => none) Try.func23 rfl (by kernel_rfl) ?_)))
  have hlast : last < p.funcs.length := by omega
  obtain ⟨hF, hFm⟩ := fcAt_get hlast
  have hGn := hp.fn last hlast
  have hfl := hp.sec.funcs
  have w1 : IntKind.i64.wrap ((p.funcs.length : Int) - 1) = (last : Int) := by rw [wrapI (by omega) (by omega)]; omega
  have hF2 : (p.funcs.map Fc.cells)[last]? = some [St (fcAt p last).name, Vr.sl (fcAt p last).params, Vr.sl (fcAt p last).vars, St.sl (fcAt p last).rets, Sm.sl (fcAt p last).body] := by rw [List.getElem?_map, hF]; rfl
  obtain ⟨W, hW⟩ : ∃ W, W = H ++ .pend :: [.box 25 [Rg.sl p.regions, Fc.sl p.funcs]] := ⟨_, rfl⟩
  have hW1 : W[H.length + 1]? = some (.box 25 [Rg.sl p.regions, Fc.sl p.funcs]) := by rw [hW]; simp
  have hW0 : W[H.length]? = some .pend := by rw [hW]; simp
  have hWl : W.length = H.length + 2 := by rw [hW]; simp
  have ce := renter_ok p hp last hlast W
  simp only [Pg.cells] at ce
  simp -dsimp [w1]
  rw [show H ++ [Blk.pend, Blk.box 25 [Rg.sl p.regions, Fc.sl p.funcs]] = W from hW.symm]
  refine acallsW_of ce ?_
  rintro r M4 ⟨kc, h, rfl, hd4, hp4, hkc, hnew⟩
  have q1 := hp4.old hW1
  simp -dsimp [q1, hF2]
  refine acallsW_of (rstmts_all p hp n last (fcAt p last).body (enterT (fcAt p last)) 0 x M4 kc h hlast hx (hp.sec.ok last hlast) hGn.body rfl (hp.sec.body _ hFm) ⟨by omega, by omega⟩ hd4) ?_
  rintro r M5 ⟨rfl, h3, l3, e3, g3, hk5, hf5, hd5, hz5⟩
  have hp5 : Pre W M5 := ⟨Nat.le_trans hp4.len hk5.len, fun i hi => by
    have := hp4.len
    rw [hk5.get i (by omega) (by omega) (fun e => by have := hnew _ e; omega), hp4.get i hi]⟩
  have h3new : ∀ i, h3 = some i → W.length ≤ i := fun i hi => by
    rcases hf5 with h5 | h5
    · exact hnew i (by rw [← h5]; exact hi)
    · have := h5 i hi; have := hp4.len; omega
  obtain ⟨L4, hL4⟩ : ∃ L, M5 = H ++ .pend :: L := by
    refine pre_pend (L := [.box 25 [Rg.sl p.regions, Fc.sl p.funcs]]) (fun i hi _ => ?_) ?_
    · rw [← hW]; exact hp5.get i (by rw [hW]; exact hi)
    · rw [← hW]; exact hp5.len
  have m1 := hp5.old hW1
  have m3 := hd5.box
  simp only [chkB, chkC] at m3
  have hl3 : l3.length = (FcN p last).length := by
    cases x with
    | ok _ _ => rw [hz5.1]; exact at_len _ _
    | err _ => exact hz5.2.2
  obtain ⟨F, hFe⟩ : ∃ F, F = fcAt p last := ⟨_, rfl⟩
  have hrl := hGn.rets
  have cfi := fun (r : ByteArray) (H : List Blk) => find2_ok p last r hp.ok hlast H
  have hfw := fun r (hr : r ∈ (fcAt p last).rets) => findN_word hp hlast (hGn.nm.rets r hr)
  obtain ⟨ov, hov⟩ : ∃ ov : ByteArray → Bool, ov = fun r => (l3[idxV (FcN p last) r]?).getD false := ⟨_, rfl⟩
  have hovl : ∀ r, r ∈ (fcAt p last).rets → idxV (FcN p last) r < l3.length ∧ l3[idxV (FcN p last) r]? = some (ov r) := fun r hr => by
    obtain ⟨_, _, v, h1, h2⟩ := hfw r hr
    have hi : idxV (FcN p last) r < l3.length := by rw [hl3]; exact (List.getElem?_eq_some_iff.1 h1).1
    refine ⟨hi, ?_⟩
    rw [hov]
    simp only [List.getElem?_eq_getElem hi, Option.getD_some]
  have hlev : LevE p last x ((fcAt p last).rets.map ov) e3 := by
    cases x with
    | err c => exact ⟨hz5.1, hz5.2.1⟩
    | ok t g =>
      refine ⟨hz5.2.1, List.map_congr_left fun r hr => ?_⟩
      obtain ⟨_, _, v, h1, h2⟩ := hfw r hr
      have := (hovl r hr).2
      rw [hz5.1, at_get (t := t) h1, h2] at this
      exact (Option.some.inj this).symm
  have h3ne : ∀ i, h3 = some i → i ≠ H.length := fun i hi => by have := h3new i hi; omega
  clear hz5 hov
  rw [← hFe] at hF2 hrl hfw hovl hlev cfi
  obtain ⟨es, hes⟩ : ∃ es : List ByteArray → List (List AV), es = fun l => (l.map ov).map fun b => [Bo b] := ⟨_, rfl⟩
  have hese : ∀ l, es l = (l.map ov).map fun b => [Bo b] := fun l => by rw [hes]
  obtain ⟨N, hN⟩ : ∃ N : List ByteArray → List Blk, N = fun l => M5.set H.length (ownB 4 1 (es l)) := ⟨_, rfl⟩
  have hNe : ∀ l, N l = M5.set H.length (ownB 4 1 (es l)) := fun l => by rw [hN]
  have hNl : ∀ l, N l = H ++ ownB 4 1 (es l) :: L4 := fun l => by rw [hNe, hL4]; simp
  have r0 : ∀ l, (N l)[H.length]? = some (ownB 4 1 (es l)) := fun l => by rw [hNl]; simp
  have r1 : ∀ l, (N l)[H.length + 1]? = some (.box 25 [Rg.sl p.regions, Fc.sl p.funcs]) := fun l => by rw [hNe, get_set_ne (by omega)]; exact m1
  have r3 : ∀ l, (N l)[kc]? = some (.box 119 [Rg.sl p.regions, Fc.sl p.funcs, I last, rowX h3 l3.length, I e3, I g3]) := fun l => by rw [hNe, get_set_ne (by omega)]; exact m3
  have rs : ∀ l l', (N l).set H.length (ownB 4 1 (es l')) = N l' := fun l l' => by rw [hNl, hNl]; simp
  have r4 : ∀ l k, h3 = some k → (N l)[k]? = some (bRow l3) := fun l k hk => by rw [hNe, get_set_ne (fun e => h3ne k hk e.symm)]; exact hd5.row.row k hk
  have hnil := hd5.row.nil
  have hN0 : M5 = N [] := by
    rw [hNl, hL4, hese, List.map_nil, List.map_nil, ownB, if_pos rfl]
  rw [hN0]
  clear hN hN0 m1 m3 hd5 hk5 hf5 hd4 hp4
  simp -dsimp
  refine loop_rule (hn := fun d => d == 60) (od := fun _ => none) (fun (i : Nat) q H' => H' = N (F.rets.take i) ∧ q 1 = .bp (H.length + 1) 0 ∧ q 4 = I last ∧ q 5 = .bp kc 0 ∧ q 6 = ownS H.length (es (F.rets.take i)) ∧ q 7 = I i ∧ i ≤ F.rets.length)
    (fun i => F.rets.length - i) (by kernel_rfl) 0 ⟨by rw [List.take_zero], by simp, by simp, by simp, by simp [hese], by simp, by simp⟩ ?_
  rintro i q _ ⟨rfl, q1, q4, q5, q6, q7, hi⟩
  simp -dsimp [q1, q4, q5, q6, q7, r1, hF2]
  refine condVW_introD (fun hlt => ?_) (fun hlt => ?_)
  · have hlt' : i < F.rets.length := by omega
    have hrx := List.getElem?_eq_getElem hlt'
    have ht : F.rets.take (i + 1) = F.rets.take i ++ [F.rets[i]] := List.take_succ_eq_append_getElem hlt'
    have hrm := List.getElem_mem hlt'
    obtain ⟨r, hr⟩ : ∃ r, r = F.rets[i] := ⟨_, rfl⟩
    rw [← hr] at hrx ht hrm
    clear hr
    obtain ⟨e1, e2, _⟩ := hfw r hrm
    obtain ⟨e3', e4⟩ := hovl r hrm
    have cf := fun H => cfi r H
    rw [e1, e2] at cf
    simp only [Pg.cells] at cf
    have hFF : FcN p last = allV F := by rw [hFe]
    rw [hFF] at e3' e4
    obtain ⟨idx, hidx⟩ : ∃ idx, idx = idxV (allV F) r := ⟨_, rfl⟩
    rw [← hidx] at cf e3' e4
    have w2 : IntKind.i64.wrap ((i : Int) + 1) = ((i + 1 : Nat) : Int) := wrapS (by omega)
    have hel : (es (F.rets.take i)).length = i := by rw [hese]; simp; omega
    have hs : es (F.rets.take i) ++ [[Bo (ov r)]] = es (F.rets.take (i + 1)) := by rw [ht, hese, hese]; simp
    have hrc : (F.rets.map fun x => [St x])[i]? = some [St r] := by rw [List.getElem?_map, hrx]; rfl
    have hbc : (l3.map fun b => [Bo b])[idx]? = some [Bo (ov r)] := by rw [List.getElem?_map, e4]; rfl
    obtain ⟨a, ha⟩ : ∃ a, a = F.rets.take i := ⟨_, rfl⟩
    obtain ⟨a', ha'⟩ : ∃ a', a' = F.rets.take (i + 1) := ⟨_, rfl⟩
    rw [← ha] at q6 hel hs ⊢
    rw [← ha'] at hs
    cases h3 with
    | none => have := hnil rfl; subst this; simp at e3'
    | some k3 =>
    have r4 := fun l => r4 l k3 rfl
    simp only [bRow] at r4
    simp only [rowX] at r3
    simp -dsimp [q1, q4, q5, q6, q7, r1, hF2, hrc]
    refine callDW_intro (cf _) ?_
    simp -dsimp [q1, q4, q5, q6, q7, r1, r3, r4]
    refine ⟨e3', ?_⟩
    simp -dsimp [q1, q4, q5, q6, q7, r1, r3, r4, hbc]
    refine appendVW_own (es := es a) (by exact r0 _) (by simp; omega) (by simp; omega) ?_
    rw [hs, rs]
    simp -dsimp [q1, q4, q5, q6, q7]
    exact ⟨i + 1, by omega, by rw [ha'], by rw [ha'], w2, by omega⟩
  · have hti : F.rets.take i = F.rets := List.take_of_length_le (by omega)
    rw [hti] at q6 ⊢
    simp -dsimp [q5, q6, r3]
    rw [hNl, hese]
    exact bo_fin2 hu _ _ _ ⟨⟨_, _, rfl, hlev⟩, rfl⟩
end Go.Proofs
namespace Go.Proofs
open Go.Mu
theorem least_err {R : Tab → Int → Option Rs} (hR : ∀ t g c, R t g = some (.err c) → c ≠ 0) : ∀ n t g c, leastM R n t g = some (.err c) → c ≠ 0
  | 0, _, _, _, h => by cases h
  | n + 1, t, g, c, h => by
    rw [leastM] at h
    rcases bindR_some h with ⟨e, h1, he⟩ | ⟨t1, g1, h1, h2⟩
    · cases he; exact hR _ _ _ h1
    · split at h2
      · cases h2
      · exact least_err hR n _ _ _ h2
theorem gM_err {p : Pg} : ∀ n f l t g c, gM p n f l t g = some (.err c) → c ≠ 0
  | 0, _, _, _, _, _, h => by cases h
  | n + 1, f, [], t, g, c, h => by cases h
  | n + 1, f, s :: l, t, g, c, h => by
    rw [gM] at h
    split at h
    · cases h; decide
    rcases bindR_some h with ⟨e, h1, he⟩ | ⟨t1, g1, h1, h2⟩
    · cases he
      clear h
      unfold stM at h1
      simp only at h1
      split at h1
      · split at h1
        · cases h1; decide
        · cases h1
      split at h1
      · split at h1
        · split at h1
          · cases h1; decide
          · split at h1
            · cases h1; decide
            · cases h1
        · cases h1; decide
      split at h1
      · split at h1
        · rcases bindR_some h1 with ⟨e, h2, he⟩ | ⟨t2, g2, h2, h3⟩
          · cases he; exact gM_err n _ _ _ _ _ h2
          rcases bindR_some h3 with ⟨e, h4, he⟩ | ⟨t3, g3, h4, h5⟩
          · cases he; exact gM_err n _ _ _ _ _ h4
          cases h5
        · cases h1; decide
      split at h1
      · refine least_err (fun t2 g2 c2 h => ?_) _ _ _ _ h1
        split at h
        · exact gM_err n _ _ _ _ _ h
        · cases h; decide
      split at h1
      · rcases bindR_some h1 with ⟨e, h2, he⟩ | ⟨t2, g2, h2, h3⟩
        · cases he
          exact least_err (fun t3 g3 c2 h => gM_err n _ _ _ _ _ h) _ _ _ _ h2
        cases h3
      split at h1
      · unfold callM at h1
        split at h1
        · cases h1; decide
        rcases bindR_some h1 with ⟨e, h2, he⟩ | ⟨t2, g2, h2, h3⟩
        · cases he; exact gM_err n _ _ _ _ _ h2
        cases h3
      · cases h1
    · exact gM_err n _ _ _ _ _ h2
theorem rIn_of {p : Pg} (hp : p.Ok2) (hm : mayE p = 0) : RIn p ∧ 1 ≤ p.funcs.length := by
  obtain ⟨h1, h2, h3, h4⟩ := may_nm hm
  have hb := hp.body36
  refine ⟨⟨hp.ok, secIn_of hm (by omega) (by omega) (fun f hf => ?_), h1⟩, h4⟩
  obtain ⟨k, hk, rfl⟩ := List.mem_iff_getElem.1 hf
  have e : fcAt p k = p.funcs[k] := by rw [fcAt, List.getElem?_eq_getElem hk]; rfl
  have := (h1 k hk).words
  have := hb _ hf
  rw [e] at *
  exact ⟨by omega, by omega, by omega⟩
theorem fuel_of {p : Pg} (hm : mayE p = 0) (f : Nat) (hf : f < p.funcs.length) (t : Tab) (g : Int) : ∃ n x, gM p n f (fcAt p f).body t g = some x := by
  refine gM_tot (fun k => ?_) f _ _ (Nat.le_refl _) (may_w hm f hf).2 t g
  by_cases hk : k < p.funcs.length
  · exact (may_w hm k hk).2
  · rw [fcAt, List.getElem?_eq_none (by omega)]; rfl
theorem sectypeChecks_ok (p : Pg) (hp : p.Ok3) (H : List Blk) : ACalls Try.prog 6 [.agg p.cells] H (fun e H' => e = .ret (Bo true) ∧ H' = H) := by
  refine acalls_tidy (acalls_of_vc (hn := fun _ => false) (od := fun _ => none) Try.func6 rfl (by kernel_rfl) ?_)
  have cs := fun H => small_ok p hp.ok 1500 H
  have cmay := fun H => rmay_ok p hp H
  have ck := fun H => sknown_ok H
  have hb1 : (H ++ [Blk.box 25 p.cells])[H.length]? = some (.box 25 p.cells) := by simp
  have fin : ∀ L, Tidy H (fun e H' => e = .ret (Bo true) ∧ H' = H) (.ret (Bo true)) (H ++ L) := fun L => tidy_same rfl ⟨rfl, rfl⟩
  simp only [Pg.cells] at cs cmay hb1
  simp -dsimp
  refine acallsW_det (cs _) ?_
  cases smallB p 1500
  · simp -dsimp
    refine acallsW_det (ck _) ?_
    simp -dsimp
    exact fin _
  simp -dsimp [hb1]
  by_cases hm : mayE p = 0
  rotate_left
  · have c1 := fun H => check_no p hp.ok hm H
    simp only [Pg.cells] at c1
    have hne : (mayE p != 0) = true := by simpa using hm
    refine acallsW_det (c1 _) ?_
    simp -dsimp [hb1]
    refine acallsW_det (cmay _) ?_
    simp -dsimp [hne]
    refine acallsW_det (ck _) ?_
    simp -dsimp
    exact fin _
  obtain ⟨hr, h1⟩ := rIn_of hp.ok hm
  obtain ⟨last, hlast⟩ : ∃ last, p.funcs.length = last + 1 := ⟨p.funcs.length - 1, by omega⟩
  obtain ⟨n, x, hx⟩ := fuel_of hm last (by omega) (enterT (fcAt p last)) 0
  have hx0 : ∀ c, x = .err c → c ≠ 0 := fun c hc => by rw [hc] at hx; exact gM_err _ _ _ _ _ _ hx
  have hrl := (hr.fn last (by omega)).rets
  have c1 := fun H => check_ok p hp.ok hr.sec hm n last hlast x hx hx0 (by omega) H
  have c2 := fun H => rlevels_ok p hr n last hlast x hx H
  simp only [Pg.cells] at c1 c2
  rw [hm] at cmay
  refine acallsW_det (c1 _) ?_
  simp -dsimp [hb1]
  refine acallsW_det (cmay _) ?_
  simp -dsimp [hb1]
  refine acallsW_of (c2 _) ?_
  rintro r H' ⟨⟨l, c, rfl, hlev⟩, rfl⟩
  cases x with
  | err k =>
    obtain ⟨rfl, hk0⟩ := hlev
    have hne : (c != 0) = true := by simpa using hk0
    simp -dsimp [ansR, hne]
    refine acallsW_det (ck _) ?_
    simp -dsimp
    exact fin _
  | ok t g =>
    obtain ⟨rfl, rfl⟩ := hlev
    simp only [ansR]
    obtain ⟨l, hl⟩ : ∃ l, l = (fcAt p last).rets.map fun r => lookB r t := ⟨_, rfl⟩
    have hll : l.length ≤ 64 := by rw [hl]; simpa using hrl
    rw [← hl]
    clear hl
    simp -dsimp
    refine loop_rule (hn := fun _ => false) (od := fun _ => none) (fun (i : Nat) q X => (∃ L, X = H ++ L) ∧ q 3 = boS l ∧ q 6 = boS l ∧ q 8 = I i ∧ i ≤ l.length) (fun i => l.length - i) (by kernel_rfl) 0 ⟨⟨_, rfl⟩, by simp, by simp, by simp, by simp⟩ ?_
    rintro i q _ ⟨⟨L, rfl⟩, q3, q6, q8, hi⟩
    simp -dsimp [q3, q6, q8]
    refine condVW_introD (fun hlt => ?_) (fun hlt => ?_)
    · have hlt' : i < l.length := by omega
      have hx := List.getElem?_eq_getElem hlt'
      obtain ⟨b, hb⟩ : ∃ b, b = l[i] := ⟨_, rfl⟩
      rw [← hb] at hx
      have w2 : IntKind.i64.wrap ((i : Int) + 1) = ((i + 1 : Nat) : Int) := wrapS (by omega)
      have hbn : binE Try.prog .neq 4 (Bo b) (Bo b) = some (Bo false) := by cases b <;> kernel_rfl
      simp -dsimp [q3, q6, q8, hx, hbn]
      exact ⟨i + 1, by omega, w2, by omega⟩
    · simp -dsimp
      refine acallsW_det (ck _) ?_
      simp -dsimp
      exact fin _
end Go.Proofs
