/- Operations over abstract values, one by one (8): maps keyed by structs or arrays of plain cells. -/
import Derived.Test.YtganjkhdlehhdaaGreatFwJ
import Derived.ChangeKeysEq
set_option linter.unusedVariables false
set_option linter.unusedSimpArgs false
namespace Go.Mu
open Go.RowKit (Below)
def scalD : TypeDesc → Bool
  | .int _ | .string | .bool => true
  | _ => false
def kFields (P : Program) : Nat → List Field → Option (List TypeDesc)
  | _, [] => some []
  | i, f :: fs => match P.underlying f.type, kFields P (i + 1) fs with
    | some d, some ds => if scalD d = true ∧ f.offset = i ∧ f.name ≠ "_" ∧ szOf P f.type = some 1 then some (d :: ds) else none
    | _, _ => none
def ksOf (P : Program) (kt : TypeId) : Option (List TypeDesc) :=
  match P.underlying kt with
  | some (.struct fs) => if P.stoodInHeld kt then none else kFields P 0 fs.toList
  | some (.array n e) => match P.underlying e with
    | some d => if scalD d = true ∧ szOf P e = some 1 then some (List.replicate n d) else none
    | none => none
  | _ => none
def sameKs : List TypeDesc → List Value → List Value → Option Bool
  | [], [], [] => some true
  | d :: ds, a :: as, b :: bs => match Instr.sameNow d a b, sameKs ds as bs with
    | some p, some q => some (p && q)
    | _, _ => none
  | _, _, _ => none
def cmpK (ks : List TypeDesc) : Value → Value → Option Bool
  | .agg a, .agg b => sameKs ks a.toList b.toList
  | _, _ => none
theorem sameNow_run {P : Program} {t : TypeId} {d : TypeDesc} {a b : Value} {r : Bool} (hu : P.underlying t = some d) (hd : scalD d = true) (h : Instr.sameNow d a b = some r) (D : Nat) (w : World) : (Op.equalIn (D + 1) t a b).run P w = .ok r w := by
  unfold Instr.sameNow at h
  split at h
  · split at h
    · rename_i hk; subst hk; simp at h; subst h; exact run_equalIn_int w D t _ _ _ _ hu
    · cases h
  · simp at h; subst h; simp [Op.equalIn, run_underlying hu]
  · simp at h; subst h; exact run_equalIn_bool w D t _ _ hu
  · cases h
theorem sameNow_scal {d : TypeDesc} {a b : Value} {r : Bool} (h : Instr.sameNow d a b = some r) : a.oneCell' = true ∧ b.oneCell' = true ∧ (∀ n, a = b → Instr.sameBits (n + 1) a a = true) := by
  unfold Instr.sameNow at h
  split at h
  · simp [Value.oneCell', Instr.sameBits]
  · rename_i a b
    refine ⟨rfl, rfl, fun n _ => ?_⟩
    simp only [Instr.sameBits]
    rw [beq_toListBytes]
    simp
  · simp [Value.oneCell', Instr.sameBits]
  · cases h
theorem sameKs_true : ∀ {ds : List TypeDesc} {as bs : List Value}, sameKs ds as bs = some true → as = bs ∧ ∀ n, ∀ x ∈ as.zip as, Instr.sameBits (n + 1) x.1 x.2 = true
  | [], [], [], _ => ⟨rfl, by simp⟩
  | d :: ds, a :: as, b :: bs, h => by
    unfold sameKs at h
    split at h
    · rename_i p q hp hq
      simp at h
      obtain ⟨rfl, rfl⟩ := h
      obtain ⟨e1, e2⟩ := sameKs_true hq
      obtain ⟨e3, _⟩ := sameNow_true hp
      obtain ⟨_, _, e4⟩ := sameNow_scal hp
      refine ⟨by rw [e1, e3], fun n x hx => ?_⟩
      simp only [List.zip_cons_cons, List.mem_cons] at hx
      rcases hx with rfl | hx
      · exact e4 n e3
      · exact e2 n x hx
    · cases h
  | [], _ :: _, _, h => by simp [sameKs] at h
  | [], [], _ :: _, h => by simp [sameKs] at h
  | _ :: _, [], _, h => by simp [sameKs] at h
  | _ :: _, _ :: _, [], h => by simp [sameKs] at h
theorem cmpK_true {ks : List TypeDesc} {a b : Value} (h : cmpK ks a b = some true) : a = b ∧ Instr.sameBits 10000 b a = true := by
  unfold cmpK at h
  split at h
  · rename_i a b
    obtain ⟨e1, e2⟩ := sameKs_true h
    obtain ⟨a⟩ := a
    obtain ⟨b⟩ := b
    simp only at e1 e2
    subst e1
    refine ⟨rfl, ?_⟩
    rw [show (10000 : Nat) = 9999 + 1 from rfl]
    simp only [Instr.sameBits, beq_self_eq_true, Bool.true_and, List.all_eq_true]
    intro x hx
    exact e2 9998 x hx
  · cases h
section
variable {P : Program}
theorem run_part_scal {t : TypeId} {d : TypeDesc} (hu : P.underlying t = some d) (hd : scalD d = true) (hz : szOf P t = some 1) {xs : Array Value} {off : Nat} {v : Value} (hx : xs[off]? = some v) (w : World) : (part t xs off).run P w = .ok v w := by
  have hb : aggOf P t = some false := by unfold aggOf; rw [hu]; cases d <;> simp [scalD] at hd <;> rfl
  have hr : RepL (⟨w, fun _ => True, id, id, []⟩ : Cx) false (xs.toList.map .v) xs.toList := RepL.of_v _ _ _
  obtain ⟨y, h1, h2⟩ := run_part (P := P) (w := w) hz hb hr (r := .v v) (off := off) (by simp only [partA, Bool.false_eq_true, if_false, List.getElem?_map, Array.getElem?_toList, hx, Option.map_some])
  rw [Array.toArray_toList] at h1
  rw [h1, h2.v_inv]
theorem run_eqF {d : Nat} {w : World} {xs ys : List Value} : ∀ (fs : List Field) (i : Nat) (ds : List TypeDesc) (r : Bool), kFields P i fs = some ds → sameKs ds (xs.drop i) (ys.drop i) = some r → (Op.eqFields (d + 1) xs.toArray ys.toArray fs).run P w = .ok r w
  | [], i, ds, r, h, hs => by
    simp only [kFields, Option.some.injEq] at h
    subst h
    generalize xs.drop i = a at hs
    generalize ys.drop i = b at hs
    cases a <;> cases b <;> simp [sameKs] at hs
    subst hs; simp [Op.eqFields]
  | f :: fs, i, ds, r, h, hs => by
    unfold kFields at h
    split at h
    · rename_i dd ds' hu hks
      split at h
      · rename_i hc
        cases h
        cases hx : xs.drop i with
        | nil => rw [hx] at hs; simp [sameKs] at hs
        | cons x xs' =>
          cases hy : ys.drop i with
          | nil => rw [hx, hy] at hs; simp [sameKs] at hs
          | cons y ys' =>
            rw [hx, hy] at hs
            unfold sameKs at hs
            split at hs
            · rename_i p q hp hq
              simp at hs; subst hs
              have gx : xs.toArray[f.offset]? = some x := by rw [hc.2.1]; simp; have := congrArg (·[0]?) hx; simpa using this
              have gy : ys.toArray[f.offset]? = some y := by rw [hc.2.1]; simp; have := congrArg (·[0]?) hy; simpa using this
              have dx : xs.drop (i + 1) = xs' := by rw [← List.drop_drop, hx]; rfl
              have dy : ys.drop (i + 1) = ys' := by rw [← List.drop_drop, hy]; rfl
              have ih := run_eqF (d := d) (w := w) (xs := xs) (ys := ys) fs (i + 1) ds' q hks (by rw [dx, dy]; exact hq)
              have hn := hc.2.2.1
              simp only [Op.eqFields, ne_eq, hn, not_false_eq_true, if_true, Sem.run_bind, run_part_scal hu hc.1 hc.2.2.2 gx, run_part_scal hu hc.1 hc.2.2.2 gy, sameNow_run hu hc.1 hp, Result.andThen_ok, Sem.run_ite, ih, Sem.run_pure]
              cases p <;> simp
            · cases hs
      · cases h
    · cases h
theorem run_eqI {d : Nat} {w : World} {e : TypeId} {dd : TypeDesc} (hu : P.underlying e = some dd) (hd : scalD dd = true) (hz : szOf P e = some 1) (hc1 : P.cellsOf e = 1) {xs ys : List Value} : ∀ (n i : Nat) (r : Bool), sameKs (List.replicate n dd) (xs.drop i) (ys.drop i) = some r →
    (Op.eqItems (d + 1) e (P.cellsOf e) xs.toArray ys.toArray (List.range' i n)).run P w = .ok r w
  | 0, i, r, hs => by
    simp only [List.replicate_zero] at hs
    generalize xs.drop i = a at hs
    generalize ys.drop i = b at hs
    cases a <;> cases b <;> simp [sameKs] at hs
    subst hs; simp [Op.eqItems]
  | n + 1, i, r, hs => by
    rw [List.replicate_succ] at hs
    cases hx : xs.drop i with
    | nil => rw [hx] at hs; simp [sameKs] at hs
    | cons x xs' =>
      cases hy : ys.drop i with
      | nil => rw [hx, hy] at hs; simp [sameKs] at hs
      | cons y ys' =>
        rw [hx, hy] at hs
        unfold sameKs at hs
        split at hs
        · rename_i p q hp hq
          simp at hs; subst hs
          have gx : xs.toArray[i * P.cellsOf e]? = some x := by rw [hc1, Nat.mul_one]; simp; have := congrArg (·[0]?) hx; simpa using this
          have gy : ys.toArray[i * P.cellsOf e]? = some y := by rw [hc1, Nat.mul_one]; simp; have := congrArg (·[0]?) hy; simpa using this
          have dx : xs.drop (i + 1) = xs' := by rw [← List.drop_drop, hx]; rfl
          have dy : ys.drop (i + 1) = ys' := by rw [← List.drop_drop, hy]; rfl
          have ih := run_eqI (d := d) (w := w) hu hd hz hc1 (xs := xs) (ys := ys) n (i + 1) q (by rw [dx, dy]; exact hq)
          rw [List.range'_succ]
          simp only [Op.eqItems, Sem.run_bind, run_part_scal hu hd hz gx, run_part_scal hu hd hz gy, sameNow_run hu hd hp, Result.andThen_ok, Sem.run_ite, ih, Sem.run_pure]
          cases p <;> simp
        · cases hs
theorem cellsOf_one {e : TypeId} (hz : szOf P e = some 1) : P.cellsOf e = 1 := by
  unfold szOf at hz
  cases hi : P.info? e with
  | none => rw [hi] at hz; cases hz
  | some i => rw [hi] at hz; simp at hz; simp [Program.cellsOf, hi, hz]
theorem run_cmpK {kt : TypeId} {ks : List TypeDesc} (hk : ksOf P kt = some ks) {a b : Value} {r : Bool} (h : cmpK ks a b = some r) (w : World) : (Op.equal kt a b).run P w = .ok r w := by
  unfold cmpK at h
  split at h
  · rename_i xs ys
    unfold ksOf at hk
    show (Op.equalIn (9999 + 1) kt _ _).run P w = _
    split at hk
    · rename_i fs hu
      split at hk
      · cases hk
      · rename_i hp
        rw [run_equalIn_struct w 9999 kt _ _ (by simp [Program.fieldsOf, hu]) (by simpa using hp)]
        simp only [Program.fieldsOf, hu]
        have := run_eqF (P := P) (d := 9998) (w := w) (xs := xs.toList) (ys := ys.toList) fs.toList 0 ks r hk (by simpa using h)
        simpa using this
    · rename_i n e hu
      split at hk
      · rename_i d hue
        split at hk
        · rename_i hc
          cases hk
          obtain ⟨i, hi⟩ := info_of_underlying hue
          rw [run_equalIn_array w 9999 xs ys hu hi]
          have := run_eqI (P := P) (d := 9998) (w := w) hue hc.1 hc.2 (cellsOf_one hc.2) (xs := xs.toList) (ys := ys.toList) n 0 r (by simpa using h)
          rw [List.range_eq_range']
          simpa using this
        · cases hk
      · cases hk
    · cases hk
  · cases h
def okKs : List TypeDesc → List Value → Bool
  | [], [] => true
  | d :: ds, a :: as => (Instr.sameNow d a a).isSome && okKs ds as
  | _, _ => false
def okK (ks : List TypeDesc) : Value → Bool
  | .agg a => okKs ks a.toList
  | _ => false
theorem run_ck1 {t : TypeId} {d : TypeDesc} (hu : P.underlying t = some d) (hd : scalD d = true) (b : Bool) (n : Nat) (v : Value) (w : World) : (Instr.checkKey b (n + 1) t v).run P w = .ok () w := by
  unfold Instr.checkKey
  cases d <;> simp [scalD] at hd <;> simp [run_underlying hu]
theorem run_ckF {b : Bool} {n : Nat} {w : World} {xs : List Value} : ∀ (fs : List Field) (i : Nat) (ds : List TypeDesc), kFields P i fs = some ds → okKs ds (xs.drop i) = true →
    (forIn fs PUnit.unit fun f _ => (if f.name ≠ "_" then (do let v ← part f.type xs.toArray f.offset; Instr.checkKey b (n + 1) f.type v; pure (ForInStep.yield PUnit.unit)) else pure (ForInStep.yield PUnit.unit) : Sem (ForInStep PUnit))).run P w = .ok PUnit.unit w
  | [], i, ds, h, hs => by simp
  | f :: fs, i, ds, h, hs => by
    unfold kFields at h
    split at h
    · rename_i dd ds' hu hks
      split at h
      · rename_i hc
        cases h
        cases hx : xs.drop i with
        | nil => rw [hx] at hs; simp [okKs] at hs
        | cons x xs' =>
          rw [hx] at hs
          unfold okKs at hs
          rw [Bool.and_eq_true] at hs
          have gx : xs.toArray[f.offset]? = some x := by rw [hc.2.1]; simp; have := congrArg (·[0]?) hx; simpa using this
          have dx : xs.drop (i + 1) = xs' := by rw [← List.drop_drop, hx]; rfl
          have ih := run_ckF (b := b) (n := n) (w := w) (xs := xs) fs (i + 1) ds' hks (by rw [dx]; exact hs.2)
          have hn := hc.2.2.1
          simp only [List.forIn_cons, Sem.run_bind, ne_eq, hn, not_false_eq_true, if_true, run_part_scal hu hc.1 hc.2.2.2 gx, run_ck1 hu hc.1, Result.andThen_ok, Sem.run_pure]
          exact ih
      · cases h
    · cases h
theorem run_ckI {b : Bool} {m : Nat} {w : World} {e : TypeId} {dd : TypeDesc} (hu : P.underlying e = some dd) (hd : scalD dd = true) (hz : szOf P e = some 1) {xs : List Value} : ∀ (n i : Nat), okKs (List.replicate n dd) (xs.drop i) = true →
    (forIn (List.range' i n) PUnit.unit fun j _ => (do Instr.checkKey b (m + 1) e (← part e xs.toArray (j * (← sizeOf e))); pure (ForInStep.yield PUnit.unit) : Sem (ForInStep PUnit))).run P w = .ok PUnit.unit w
  | 0, i, hs => by simp
  | n + 1, i, hs => by
    rw [List.replicate_succ] at hs
    cases hx : xs.drop i with
    | nil => rw [hx] at hs; simp [okKs] at hs
    | cons x xs' =>
      rw [hx] at hs
      unfold okKs at hs
      rw [Bool.and_eq_true] at hs
      have gx : xs.toArray[i * 1]? = some x := by rw [Nat.mul_one]; simp; have := congrArg (·[0]?) hx; simpa using this
      have dx : xs.drop (i + 1) = xs' := by rw [← List.drop_drop, hx]; rfl
      have ih := run_ckI (b := b) (m := m) (w := w) hu hd hz (xs := xs) n (i + 1) (by rw [dx]; exact hs.2)
      rw [List.range'_succ]
      simp only [List.forIn_cons, Sem.run_bind, run_sizeOf hz, run_part_scal hu hd hz gx, run_ck1 hu hd, Result.andThen_ok, Sem.run_pure]
      exact ih
theorem run_ckK {kt : TypeId} {ks : List TypeDesc} (hk : ksOf P kt = some ks) {a : Value} (h : okK ks a = true) (b : Bool) (w : World) : (Instr.checkKey b 10000 kt a).run P w = .ok () w := by
  unfold okK at h
  split at h
  · rename_i xs
    obtain ⟨xs⟩ := xs
    simp only at h
    unfold ksOf at hk
    rw [show (10000 : Nat) = 9998 + 1 + 1 from rfl, Instr.checkKey]
    split at hk
    · rename_i fs hu
      split at hk
      · cases hk
      · have := run_ckF (P := P) (b := b) (n := 9998) (w := w) (xs := xs) fs.toList 0 ks hk (by simpa using h)
        simp only [Sem.run_bind, run_underlying hu, Result.andThen_ok]
        rw [← Array.forIn_toList]
        have h2 : ∀ {α : Type} {m : Sem α} {a : α} {w' : World} {g : α → World → Result Unit}, m.run P w = .ok a w' → (m.run P w).andThen g = g a w' := fun h => by rw [h]; rfl
        first
          | exact h2 this
          | (rw [Sem.run_bind]; exact h2 this)
    · rename_i n e hu
      split at hk
      · rename_i d hue
        split at hk
        · rename_i hc
          cases hk
          have := run_ckI (P := P) (b := b) (m := 9998) (w := w) hue hc.1 hc.2 (xs := xs) n 0 (by simpa using h)
          simp only [Sem.run_bind, run_underlying hu, Result.andThen_ok, Std.Legacy.Range.forIn_eq_forIn_range', Std.Legacy.Range.size, Nat.sub_zero, Nat.add_one_sub_one, Nat.div_one]
          have h2 : ∀ {α : Type} {m : Sem α} {a : α} {w' : World} {g : α → World → Result Unit}, m.run P w = .ok a w' → (m.run P w).andThen g = g a w' := fun h => by rw [h]; rfl
          exact h2 this
        · cases hk
      · cases hk
    · cases hk
  · cases h
end
def mapOfK (P : Program) (t : TypeId) : Option (TypeId × List TypeDesc × Value) :=
  match P.underlying t with
  | some (.map k e) => match ksOf P k, zeroOf P e with
    | some ks, some z => some (k, ks, z)
    | _, _ => none
  | _ => none
theorem mapOfK_spec {P : Program} {t k : TypeId} {ks : List TypeDesc} {z : Value} (h : mapOfK P t = some (k, ks, z)) : ∃ e, P.underlying t = some (.map k e) ∧ ksOf P k = some ks ∧ zeroOf P e = some z := by
  unfold mapOfK at h
  split at h
  · rename_i k' e hu
    split at h
    · rename_i ks' z' hk hz
      simp only [Option.some.injEq, Prod.mk.injEq] at h
      obtain ⟨rfl, rfl, rfl⟩ := h
      exact ⟨e, hu, hk, hz⟩
    · cases h
  · cases h
def mfindK (ks : List TypeDesc) (key : Value) : List (Value × AV) → Option (Option AV)
  | [] => some none
  | (k, v) :: rest => match cmpK ks key k with
    | some true => some (some v)
    | some false => mfindK ks key rest
    | none => none
def msetK (ks : List TypeDesc) (key : Value) (x : AV) : List (Value × AV) → Option (List (Value × AV))
  | [] => some [(key, x)]
  | (k, v) :: rest => match cmpK ks key k with
    | some true => some ((key, x) :: rest)
    | some false => (msetK ks key x rest).map ((k, v) :: ·)
    | none => none
def plainV : AV → Option Value
  | .v x => some x
  | _ => none
def keyG : AV → Option Value
  | .agg cs => (cs.mapM plainV).map fun l => .agg l.toArray
  | _ => none
theorem keyG_rep {cx : Cx} {a : AV} {k y : Value} (h : keyG a = some k) (hr : Rep cx false a y) : y = k := by
  cases a <;> simp only [keyG] at h <;> try (cases h; done)
  rename_i cs
  rw [Option.map_eq_some_iff] at h
  obtain ⟨l, hl, rfl⟩ := h
  obtain ⟨vals, rfl, hv⟩ := hr.agg_inv
  have : vals = l := by
    clear hr
    induction cs generalizing l vals with
    | nil => simp at hl; subst hl; exact hv.nil_inv
    | cons c cs ih =>
      obtain ⟨x, xs, rfl, h1, h2⟩ := hv.cons_inv
      rw [List.mapM_cons] at hl
      simp only [bind, Option.bind_eq_some_iff, pure, Option.some.injEq] at hl
      obtain ⟨b, hb, l', hl', rfl⟩ := hl
      cases c <;> simp [plainV] at hb
      subst hb
      rw [h1.v_inv, ih l' hl' xs h2]
  rw [this]
theorem find_repK {P : Program} {cx : Cx} {kt : TypeId} {ks : List TypeDesc} (hk : ksOf P kt = some ks) {key : Value} : ∀ {es : List (Value × AV)} {ents : List MapEntry} {r : Option AV} (i : Nat), es.length = ents.length →
    (∀ (j : Nat) p e, es[j]? = some p → ents[j]? = some e → p.1 = e.key ∧ Rep cx false p.2 e.val) → mfindK ks key es = some r →
    (r = none ∧ (Instr.findAsking kt key ents i).run P cx.w = .ok none cx.w) ∨ ∃ x v n, r = some x ∧ (Instr.findAsking kt key ents i).run P cx.w = .ok (some (n, v)) cx.w ∧ Rep cx false x v
  | [], [], r, i, _, _, h => by simp [mfindK] at h; subst h; exact .inl ⟨rfl, by simp [Instr.findAsking]⟩
  | [], _ :: _, _, _, hl, _, _ => by simp at hl
  | _ :: _, [], _, _, hl, _, _ => by simp at hl
  | (k, v) :: es, e :: ents, r, i, hl, hr, h => by
    obtain ⟨h1, h2⟩ := hr 0 _ _ rfl rfl
    simp only at h1 h2
    subst h1
    unfold mfindK at h
    unfold Instr.findAsking
    split at h
    · rename_i hs; simp at h; subst h
      exact .inr ⟨v, e.val, i, rfl, by simp only [Sem.run_bind, run_cmpK hk hs, Result.andThen_ok, if_true, Sem.run_pure], h2⟩
    · rename_i hs
      simp only [Sem.run_bind, run_cmpK hk hs, Result.andThen_ok, Bool.false_eq_true, if_false]
      exact find_repK hk (i + 1) (by simpa using hl) (fun j p q a b => hr (j + 1) p q (by simpa using a) (by simpa using b)) h
    · cases h
theorem set_repK {P : Program} {cx : Cx} {kt : TypeId} {ks : List TypeDesc} (hk : ksOf P kt = some ks) {key : Value} {x : AV} {vx : Value} (hx : Rep cx false x vx) : ∀ {es out : List (Value × AV)} {ents : List MapEntry} (i : Nat), es.length = ents.length →
    (∀ (j : Nat) p e, es[j]? = some p → ents[j]? = some e → p.1 = e.key ∧ Rep cx false p.2 e.val) → msetK ks key x es = some out →
    (∃ n v e, (Instr.findAsking kt key ents i).run P cx.w = .ok (some (i + n, v)) cx.w ∧ ents[n]? = some e ∧ Instr.sameBits 10000 e.key key = true ∧ out.length = ents.length ∧ (∀ (j : Nat) p e', out[j]? = some p → (ents.modify n fun e => { e with key := key, val := vx })[j]? = some e' → p.1 = e'.key ∧ Rep cx false p.2 e'.val)) ∨
    ((Instr.findAsking kt key ents i).run P cx.w = .ok none cx.w ∧ out = es ++ [(key, x)])
  | [], out, [], i, _, _, h => by simp [msetK] at h; subst h; exact .inr ⟨by simp [Instr.findAsking], rfl⟩
  | [], _, _ :: _, _, hl, _, _ => by simp at hl
  | _ :: _, _, [], _, hl, _, _ => by simp at hl
  | (k, v) :: es, out, e :: ents, i, hl, hr, h => by
    obtain ⟨h1, h2⟩ := hr 0 _ _ rfl rfl
    simp only at h1 h2
    subst h1
    unfold msetK at h
    unfold Instr.findAsking
    split at h
    · rename_i hs; simp at h; subst h
      obtain ⟨e1, e2⟩ := cmpK_true hs
      refine .inl ⟨0, e.val, e, by simp only [Sem.run_bind, run_cmpK hk hs, Result.andThen_ok, if_true, Sem.run_pure]; rfl, rfl, e2, by simpa using hl, fun j p e' a b => ?_⟩
      cases j with
      | zero => simp at a b; subst a; subst b; exact ⟨rfl, hx⟩
      | succ j => simp at a b; exact hr (j + 1) p e' (by simpa using a) (by simpa using b)
    · rename_i hs
      rw [Option.map_eq_some_iff] at h
      obtain ⟨out', ho, rfl⟩ := h
      have hstep : ∀ r, (Instr.findAsking kt key ents (i + 1)).run P cx.w = r → ((do if ← Op.equal kt key e.key then pure (some (i, e.val)) else Instr.findAsking kt key ents (i + 1) : Sem (Option (Nat × Value)))).run P cx.w = r := fun r hh => by
        simp only [Sem.run_bind, run_cmpK hk hs, Result.andThen_ok, Bool.false_eq_true, if_false]; exact hh
      rcases set_repK hk hx (i + 1) (by simpa using hl) (fun j p q a b => hr (j + 1) p q (by simpa using a) (by simpa using b)) ho with ⟨n, v', e', a1, a2, a3, a4, a5⟩ | ⟨a1, a2⟩
      · refine .inl ⟨n + 1, v', e', by rw [hstep _ a1, show i + 1 + n = i + (n + 1) by omega], a2, a3, by simpa using a4, fun j p e'' a b => ?_⟩
        cases j with
        | zero => simp at a b; subst a; subst b; exact ⟨rfl, h2⟩
        | succ j => simp at a b; exact a5 j p e'' a b
      · exact .inr ⟨hstep _ a1, by rw [a2]; rfl⟩
    · cases h
theorem ksOf_und {P : Program} {kt : TypeId} {ks : List TypeDesc} (h : ksOf P kt = some ks) : ∃ d, P.underlying kt = some d ∧ ∀ a b, Instr.sameNow d a b = none := by
  unfold ksOf at h
  split at h
  · rename_i fs hu; exact ⟨_, hu, fun a b => by cases a <;> cases b <;> rfl⟩
  · rename_i n e hu; exact ⟨_, hu, fun a b => by cases a <;> cases b <;> rfl⟩
  · cases h
theorem findKey_ask {P : Program} {kt : TypeId} {ks : List TypeDesc} (h : ksOf P kt = some ks) {key : Value} {ents : List MapEntry} {r : Option (Nat × Value)} {w : World} (hr : (Instr.findAsking kt key ents 0).run P w = .ok r w) : (Instr.findKey kt key ents).run P w = .ok r w := by
  obtain ⟨d, hu, hd⟩ := ksOf_und h
  unfold Instr.findKey
  simp only [Sem.run_bind, run_underlying hu, Result.andThen_ok]
  cases ents with
  | nil => simp [Instr.findNow]; simpa [Instr.findAsking] using hr
  | cons e ents => simp only [Instr.findNow, hd]; exact hr
section
variable {P : Program} {o : Oper} {ρ : Operand → AV} {H : List Blk} {K pan : AV → List Blk → Prop}
theorem sound_lookupK {t : TypeId} {x i : Operand} {ok : Bool} (ho : o.op = .lookup t x i ok)
    (h : bindO (mapOfK P t) fun m => bindO (mapEs H (ρ x)) fun es => bindO (keyG (ρ i)) fun k => andV (okK m.2.1 k = true) (bindO (mfindK m.2.1 k es) fun r =>
      K (if ok then .tup [r.getD (assertV.avZ m.2.2), .v (.bool r.isSome)] else r.getD (assertV.avZ m.2.2)) H)) : OpSem P o ρ H K pan := by
  obtain ⟨⟨kt, ks, z⟩, hm, es, hes, k, hk, hok, r, hr, hK⟩ := h
  obtain ⟨e, hu, hku, hz⟩ := mapOfK_spec hm
  refine opsem_same fun cx ρc B w0 h1 h2 h3 => ?_
  have hx := h3 x (by simp [Op.operands, ho])
  have hi := h3 i (by simp [Op.operands, ho])
  have hi' : ρc i = k := keyG_rep hk hi
  have hents : ∃ (ents : List MapEntry), es.length = ents.length ∧ (∀ (j : Nat) p e, es[j]? = some p → ents[j]? = some e → p.1 = e.key ∧ Rep cx false p.2 e.val) ∧
      ∃ m, ρc x = .map m ∧ ((m = none ∧ ents = []) ∨ ∃ r c, m = some r ∧ cx.w.heap[r]? = some (.map ents.toArray c)) := by
    unfold mapEs at hes
    split at hes
    · rename_i h' e'
      split at hes
      · rename_i es' hk'
        cases hes
        rw [e'] at hx
        generalize hy : ρc x = y at hx
        cases hx with
        | hm _ bl hk'' hf =>
          obtain ⟨b1, b2, ents, b3, b4, b5⟩ := h1.blk h' _ (h2 ▸ hk')
          exact ⟨ents, b4, fun j p e a b => let ⟨c1, c2, c3⟩ := b5 j p e a b; ⟨c1, c2⟩, _, rfl, .inr ⟨_, ents.length, rfl, b3⟩⟩
      · cases hes
    · rename_i h' e'
      split at hes
      · rename_i es' hk'
        cases hes
        rw [e'] at hx
        generalize hy : ρc x = y at hx
        cases hx with
        | hg _ bl hk'' hf =>
          obtain ⟨b1, b2, ents, c, b3, b4, b5, b6⟩ := h1.blk h' _ (h2 ▸ hk')
          exact ⟨ents, b4, b5, _, rfl, .inr ⟨_, c, rfl, b3⟩⟩
      · cases hes
    · rename_i e'
      cases hes
      rw [e'] at hx
      exact ⟨[], rfl, fun j p e a b => by simp at a, none, hx.v_inv, .inl ⟨rfl, rfl⟩⟩
    · cases hes
  obtain ⟨ents, hl, hrel, m, hy, hm'⟩ := hents
  have hck := run_ckK hku hok ents.toArray.isEmpty cx.w
  have hfin : ∃ rr, (Instr.findKey kt k ents).run P cx.w = .ok rr cx.w ∧ ((rr = none ∧ r = none) ∨ ∃ n v xx, rr = some (n, v) ∧ r = some xx ∧ Rep cx false xx v) := by
    rcases find_repK hku 0 hl hrel hr with ⟨rfl, hf⟩ | ⟨xx, v, n, rfl, hf, hv⟩
    · exact ⟨none, findKey_ask hku hf, .inl ⟨rfl, rfl⟩⟩
    · exact ⟨some (n, v), findKey_ask hku hf, .inr ⟨n, v, xx, rfl, rfl, hv⟩⟩
  obtain ⟨rr, hfk, hcase⟩ := hfin
  have hnt : ∀ (a b : AV) (ya yb : Value), Rep cx false a ya → Rep cx false b yb → Rep cx false (.tup [a, b]) (.tuple #[ya, yb]) := fun a b ya yb ha hb => rep_tup (((RepL.nil cx false).cons hb).cons ha)
  have hrun : ∀ v b, (match rr with | some (_, v) => (v, true) | none => (z, false)) = (v, b) → (execOp ρc o).run P cx.w = .ok (.value (if ok then .tuple #[v, .bool b] else v)) cx.w := by
    intro v b hvb
    rcases hm' with ⟨rfl, rfl⟩ | ⟨r', c, rfl, hh⟩
    · have hck' : (Instr.checkKey true 10000 kt k).run P cx.w = .ok () cx.w := hck
      rcases hcase with ⟨rfl, rfl⟩ | ⟨n, v', xx, rfl, rfl, hv⟩
      · simp at hvb; obtain ⟨rfl, rfl⟩ := hvb
        simp [execOp, ho, Instr.lookup, run_underlying hu, hy, hi', hck', hfk, run_zeroOf hz]
      · simp at hvb; obtain ⟨rfl, rfl⟩ := hvb
        simp [execOp, ho, Instr.lookup, run_underlying hu, hy, hi', hck', hfk]
    · rcases hcase with ⟨rfl, rfl⟩ | ⟨n, v', xx, rfl, rfl, hv⟩
      · simp at hvb; obtain ⟨rfl, rfl⟩ := hvb
        simp only [execOp, ho, Instr.lookup, Sem.run_bind, run_underlying hu, Result.andThen_ok, hy, run_getObj_map P hh, Sem.run_pure, hi', hck, hfk, List.toList_toArray, run_zeroOf hz]
      · simp at hvb; obtain ⟨rfl, rfl⟩ := hvb
        simp only [execOp, ho, Instr.lookup, Sem.run_bind, run_underlying hu, Result.andThen_ok, hy, run_getObj_map P hh, Sem.run_pure, hi', hck, hfk, List.toList_toArray]
  rcases hcase with ⟨rfl, rfl⟩ | ⟨n, v', xx, rfl, rfl, hv⟩
  · refine ⟨_, _, hrun z false rfl, ?_, hK⟩
    cases ok
    · simpa using avZ_rep cx false z
    · simpa using hnt _ _ _ _ (avZ_rep cx false z) (.v (.bool false))
  · refine ⟨_, _, hrun v' true rfl, ?_, hK⟩
    cases ok
    · simpa using hv
    · simpa using hnt _ _ _ _ hv (.v (.bool true))
theorem sound_mapUpdateK {t : TypeId} {m i x : Operand} (ho : o.op = .mapUpdate t m i x ∨ o.op = .insert t m i x)
    (h : bindO (mapOfK P t) fun mm => match ρ m with
      | .hm h => bindO (mapEs H (.hm h)) fun es => bindO (keyG (ρ i)) fun k => andV (okK mm.2.1 k = true) (bindO (msetK mm.2.1 k (ρ x) es) fun es' => K (.tup []) (H.set h (.map es')))
      | _ => False) : OpSem P o ρ H K pan := by
  obtain ⟨⟨kt, ks, z⟩, hm, h⟩ := h
  obtain ⟨e, hu, hku, hz⟩ := mapOfK_spec hm
  split at h
  · rename_i h' e'
    obtain ⟨es, hes, k, hk, hok, es', hset, hK⟩ := h
    refine opsem_skip fun B w0 cx ρc h1 h2 h3 => ?_
    have hops : m ∈ o.op.operands ∧ i ∈ o.op.operands ∧ x ∈ o.op.operands := by rcases ho with ho | ho <;> simp [Op.operands, ho]
    have hmr := h3 m hops.1
    have hir := h3 i hops.2.1
    have hxr := h3 x hops.2.2
    have hi' : ρc i = k := keyG_rep hk hir
    simp only [mapEs] at hes
    split at hes
    · rename_i es0 hk'
      cases hes
      rw [e'] at hmr
      generalize hy : ρc m = y at hmr
      cases hmr with
      | hm _ bl hk'' hf =>
        obtain ⟨b1, b2, ents, b3, b4, b5⟩ := h1.blk h' _ (h2 ▸ hk')
        have hkk : cx.H[h']? = some (.map es) := h2 ▸ hk'
        have hck := run_ckK hku hok false cx.w
        have base : (execOp ρc o).run P cx.w = ((Instr.mapUpdate t (.map (some (cx.κ h'))) k (ρc x)).run P cx.w).andThen fun _ w => .ok .skip w := by
          rcases ho with ho | ho <;> simp [execOp, ho, hy, hi']
        have setObj_run : ∀ (es2 : Array MapEntry) (c2 : Nat), (setObj (cx.κ h') (.map es2 c2)).run P cx.w = .ok () { cx.w with heap := cx.w.heap.setIfInBounds (cx.κ h') (.map es2 c2) } := fun es2 c2 => by
          simp [setObj, Sem.run, b3]
        have fin : ∀ (ents2 : List MapEntry) (c2 : Nat), c2 = ents2.length → es'.length = ents2.length → (∀ (j : Nat) p e, es'[j]? = some p → ents2[j]? = some e → p.1 = e.key ∧ Rep cx false p.2 e.val ∧ e.born = j) →
            (Instr.mapUpdate t (.map (some (cx.κ h'))) k (ρc x)).run P cx.w = .ok () { cx.w with heap := cx.w.heap.setIfInBounds (cx.κ h') (.map ents2.toArray c2) } →
            ∃ cx', (execOp ρc o).run P cx.w = .ok .skip cx'.w ∧ HRel B w0 cx' ∧ Le cx cx' ∧ K (.tup []) cx'.H := by
          intro ents2 c2 hc2 hl hrel hrun
          subst hc2
          have hlt : cx.κ h' < cx.w.heap.size := (Array.getElem?_eq_some_iff.1 b3).1
          have hw : ∀ i, i ≠ cx.κ h' → i < cx.w.heap.size → (cx.w.heap.setIfInBounds (cx.κ h') (.map ents2.toArray ents2.length))[i]? = cx.w.heap[i]? := fun i hi _ => Array.getElem?_setIfInBounds_ne (fun e => hi e.symm)
          have hle := le_put (cx := cx) (bl := .map es') (w' := { cx.w with heap := cx.w.heap.setIfInBounds (cx.κ h') (.map ents2.toArray ents2.length) }) hkk hw b2 (.inl ⟨rfl, rfl⟩)
          refine ⟨cx.put h' { cx.w with heap := cx.w.heap.setIfInBounds (cx.κ h') (.map ents2.toArray ents2.length) } (.map es'), ?_, ?_, hle, ?_⟩
          · rw [base, hrun]; rfl
          · refine hrel_put h1 hkk rfl ⟨rfl, rfl, rfl, by simp, fun i hi => hw i (by omega) (by have := h1.base; omega)⟩ hw hle ⟨b1, b2, ents2, ?_, hl, fun j p e a b => ?_⟩
            · exact Array.getElem?_setIfInBounds_self_of_lt hlt
            · obtain ⟨q1, q2, q3⟩ := hrel j p e a b
              exact ⟨q1, q2.mono hle, q3⟩
          · show K _ (cx.H.set h' _); rw [h2]; exact hK
        rcases set_repK (cx := cx) hku hxr 0 b4 (fun j p e a b => let ⟨c1, c2, c3⟩ := b5 j p e a b; ⟨c1, c2⟩) hset with ⟨n, v, e0, a1, a2, a3, a4, a5⟩ | ⟨a1, a2⟩
        · have hfk : (Instr.findKey kt k ents).run P cx.w = .ok (some (n, v)) cx.w := findKey_ask hku (by simpa using a1)
          have hks : (Instr.keyThatStays e0.key k).run P cx.w = .ok k cx.w := by simp [Instr.keyThatStays, a3]
          refine fin (ents.modify n fun e => { e with key := k, val := ρc x }) ents.length (by simp) (by simpa using a4) (fun j p e a b => ?_) ?_
          · obtain ⟨q1, q2⟩ := a5 j p e a b
            refine ⟨q1, q2, ?_⟩
            rw [List.getElem?_modify, Option.map_eq_map, Option.map_eq_some_iff] at b
            obtain ⟨e1, he1, rfl⟩ := b
            have hj : j < es.length := by rw [b4]; exact (List.getElem?_eq_some_iff.1 he1).1
            have := (b5 j _ e1 (List.getElem?_eq_getElem hj) he1).2.2
            split <;> exact this
          · simp only [Instr.mapUpdate, Sem.run_bind, run_underlying hu, Result.andThen_ok, run_getObj_map P b3, hck, List.toList_toArray, hfk, List.getElem?_toArray, a2, Option.map_some, Option.getD_some, hks, setObj_run]
            simp
        · have hfk : (Instr.findKey kt k ents).run P cx.w = .ok none cx.w := findKey_ask hku a1
          refine fin (ents ++ [{ key := k, val := ρc x, born := ents.length }]) (ents.length + 1) (by simp) (by rw [a2]; simp [b4]) (fun j p e a b => ?_) ?_
          · rw [a2] at a
            rw [List.getElem?_append] at a b
            by_cases hj : j < es.length
            · rw [if_pos hj] at a; rw [if_pos (by omega)] at b
              obtain ⟨q1, q2, q3⟩ := b5 j p e a b
              exact ⟨q1, q2, q3⟩
            · rw [if_neg hj] at a; rw [if_neg (by omega)] at b
              rw [b4] at a
              cases hjj : j - ents.length with
              | zero => rw [hjj] at a b; simp at a b; subst a; subst b; exact ⟨rfl, hxr, by show ents.length = j; omega⟩
              | succ q => rw [hjj] at a; simp at a
          · simp only [Instr.mapUpdate, Sem.run_bind, run_underlying hu, Result.andThen_ok, run_getObj_map P b3, hck, List.toList_toArray, hfk, setObj_run]
            simp
    · cases hes
  · exact h.elim
end
end Go.Mu
