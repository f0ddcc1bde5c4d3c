/- What comes in, as abstract values: what a reading tells; and the frame of each statement's proof. -/
import Derived.Test.YtganjkhdlehhdaaGreatFwOtoFwP
import Derived.Test.YtganjkhdlehhdaaGreatRows
import Derived.ProofKit
import Derived.OpenShut
import Derived.ChangeOld
import Derived.ChangeArms
import Derived.Below
import Derived.Carry
import Derived.JoinedCond
import Derived.Deep.Slices
import Derived.DataShut
set_option linter.unusedVariables false
set_option linter.unusedSimpArgs false
set_option maxHeartbeats 4000000
set_option maxRecDepth 100000
namespace Go.Proofs.YtganjkhdlehhdaaGreat.Lift
open Go.ChangeShapes Go.WideShapes Go.ChangeAt Go.RowKit Go.Mu Go.Proofs
theorem bulk_append {H : Type} (l r : List (DataW H)) : Rows.uptoBulkAll (l ++ r) = Rows.uptoBulkAll l + Rows.uptoBulkAll r := by
  induction l with
  | nil => simp [Rows.uptoBulkAll]
  | cons x l ih => simp only [List.cons_append, Rows.uptoBulkAll, ih]; omega
def sizes {α : Type} (size : α → Nat) (l : List α) : Nat := (l.map size).sum
theorem sizes_one {α : Type} (l : List α) : sizes (fun _ => 1) l = l.length := by
  induction l with
  | nil => rfl
  | cons n l ih => simp only [sizes, List.map_cons, List.sum_cons] at ih ⊢; rw [ih]; simp; omega
section
variable {H : Type} {enc : TypeId × Value → H} {P : Program} {cx : Cx}
def Tells (enc : TypeId × Value → H) (P : Program) (cx : Cx) (n : Nat) (t : TypeId) {α : Type} (cells : α → List AV) (size : α → Nat) (ok : α → Prop) : Prop :=
  ∀ cs x, DataW.trod enc P cx.w 0 (fun _ => true) true n t cs = some x → ∃ a : α, RepL cx true (cells a) cs ∧ (∀ v ∈ cs, v.oneCell' = true) ∧ size a ≤ Rows.uptoBulk x.1 ∧ ok a
theorem Tells.map {n : Nat} {t : TypeId} {α β : Type} {cells : α → List AV} {size : α → Nat} {ok : α → Prop} {cells' : β → List AV} {size' : β → Nat} {ok' : β → Prop} (h : Tells enc P cx n t cells size ok) (f : α → β)
    (hc : ∀ a, cells' (f a) = cells a) (hs : ∀ a, size' (f a) ≤ size a) (ho : ∀ a, ok a → ok' (f a)) : Tells enc P cx n t cells' size' ok' := by
  intro cs x hx
  obtain ⟨a, h1, h2, h3, h4⟩ := h cs x hx
  exact ⟨f a, by rw [hc]; exact h1, h2, Nat.le_trans (hs a) h3, ho a h4⟩
theorem tells_zero {t : TypeId} {α : Type} {cells : α → List AV} {size : α → Nat} {ok : α → Prop} : Tells enc P cx 0 t cells size ok := by
  intro cs x h; simp [DataW.trod] at h
theorem tells_int {n : Nat} {t : TypeId} {k : IntKind} (ht : P.underlying t = some (.int k)) : Tells enc P cx n t (fun i : Int => [AV.v (.int k i)]) (fun _ => 1) (fun i => k.min ≤ i ∧ i ≤ k.max) := by
  intro cs x h
  obtain ⟨i, rfl, rfl, hw⟩ := DataW.trod_int ht h
  simp only [Lit.wf, Bool.and_eq_true, decide_eq_true_eq] at hw
  exact ⟨i, (RepL.nil _ _).cons (.v _), by simp [Value.oneCell'], by simp [Rows.uptoBulk], hw⟩
theorem tells_bool {n : Nat} {t : TypeId} (ht : P.underlying t = some .bool) : Tells enc P cx n t (fun b : Bool => [AV.v (.bool b)]) (fun _ => 1) (fun _ => True) := by
  intro cs x h
  obtain ⟨b, rfl, rfl⟩ := DataW.trod_bool ht h
  exact ⟨b, (RepL.nil _ _).cons (.v _), by simp [Value.oneCell'], by simp [Rows.uptoBulk], trivial⟩
theorem tells_string {n : Nat} {t : TypeId} (ht : P.underlying t = some .string) : Tells enc P cx n t (fun s : ByteArray => [AV.v (.string s)]) (fun s => s.size + 1) (fun _ => True) := by
  intro cs x h
  obtain ⟨s, rfl, rfl, _⟩ := DataW.trod_string ht h
  refine ⟨s, (RepL.nil _ _).cons (.v _), by simp [Value.oneCell'], ?_, trivial⟩
  simp only [Rows.uptoBulk]
  have : s.size = s.data.toList.length := Array.length_toList.symm
  omega
theorem tells_slice {n : Nat} {t e : TypeId} {sz : Nat} {α : Type} {cells : α → List AV} {size : α → Nat} {ok : α → Prop} (ht : P.underlying t = some (.slice e)) (hsz : P.cellsOf e = sz) (hpos : 0 < sz)
    (hΦ : ∀ b, b < cx.w.heap.size → cx.Φ b) (he : Tells enc P cx n e cells size ok) : Tells enc P cx (n + 1) t (fun l : List α => [AV.vs sz (l.map cells)]) (fun l => sizes size l + 1) (fun l => ∀ a ∈ l, ok a) := by
  intro cs x h
  rcases DataW.trod_slice ht h with ⟨rfl, rfl⟩ | ⟨a, len, cap, elems, rest, n', hn, rfl, rfl, _, hl, hm, hlen, hel, _⟩
  · exact ⟨[], (RepL.nil _ _).cons (.vs0 _ _ _), by simp [Value.oneCell'], by simp [sizes, Rows.uptoBulk], by simp⟩
  · obtain rfl : n = n' := by omega
    rw [hsz] at hel
    have step : ∀ k, k ≤ len → ∃ (l : List α) (vs : List Value), l.length = k ∧ RepL cx true (l.map cells).flatten vs ∧ (∀ i, i < vs.length → cx.w.cell? (a.add i) = vs[i]?) ∧ vs.length = k * sz ∧ (∀ v ∈ vs, v.oneCell' = true) ∧ (∀ c ∈ l.map cells, c.length = sz) ∧
        sizes size l ≤ Rows.uptoBulkAll ((elems.take k).map (·.1)) ∧ (∀ a ∈ l, ok a) := by
      intro k
      induction k with
      | zero => intro _; exact ⟨[], [], rfl, RepL.nil _ _, by simp, by simp, by simp, by simp, by simp [sizes], by simp⟩
      | succ k ih =>
        intro hk
        obtain ⟨l, vs, h1, h2, h3, h4, h5, h6, h7, h8⟩ := ih (by omega)
        have hkl : k < elems.length := by omega
        have hx := hel k (by omega)
        rw [List.getElem?_eq_getElem hkl] at hx
        obtain ⟨cs, hc, hx⟩ := Option.bind_eq_some_iff.1 hx
        obtain ⟨_, hcl, hcc⟩ := World.cells?_some hc
        obtain ⟨y, hy1, hy2, hy3, hy4⟩ := he cs _ hx
        refine ⟨l ++ [y], vs ++ cs, by simp [h1], ?_, ?_, by simp only [List.length_append, h4, hcl]; rw [Nat.add_mul]; omega, ?_, ?_, ?_, ?_⟩
        · rw [List.map_append, List.flatten_append]
          exact h2.append (by simpa using hy1)
        · intro i hi
          by_cases hiv : i < vs.length
          · rw [List.getElem?_append_left hiv]; exact h3 i hiv
          · rw [List.getElem?_append_right (by omega)]
            have := hcc (i - vs.length) (by simp at hi; omega)
            rw [← this, Go.Deep.add_add, h4]
            congr 2; omega
        · intro v hv
          rcases List.mem_append.1 hv with hv | hv
          · exact h5 v hv
          · exact hy2 v hv
        · intro c hc
          simp only [List.map_append, List.mem_append, List.map_cons, List.map_nil, List.mem_singleton] at hc
          rcases hc with hc | rfl
          · exact h6 c hc
          · rw [hy1.len, hcl]
        · rw [List.take_succ_eq_append_getElem hkl, List.map_append, bulk_append]
          simp only [sizes, List.map_append, List.sum_append, List.map_cons, List.map_nil, List.sum_cons, List.sum_nil, Rows.uptoBulkAll] at h7 ⊢
          omega
        · intro a ha
          rcases List.mem_append.1 ha with ha | ha
          · exact h8 a ha
          · obtain rfl := List.mem_singleton.1 ha; exact hy4
    obtain ⟨l, vs, h1, h2, h3, h4, h5, h6, h7, h8⟩ := step len (Nat.le_refl _)
    have hbulk : sizes size l + 1 ≤ Rows.uptoBulk (DataW.slice (elems.map (·.1)) (rest.map (·.1))) := by
      rw [List.take_of_length_le (by omega)] at h7
      simp only [Rows.uptoBulk]; omega
    by_cases h0 : len = 0
    · subst h0
      obtain rfl : l = [] := List.eq_nil_of_length_eq_zero h1
      exact ⟨[], (RepL.nil _ _).cons (.vs0 _ _ _), by simp [Value.oneCell'], hbulk, by simp⟩
    · have hv0 : 0 < vs.length := by rw [h4]; exact Nat.mul_pos (by omega) hpos
      have hc0 := h3 0 hv0
      rw [List.getElem?_eq_getElem hv0] at hc0
      obtain ⟨b, o, spot⟩ := a
      obtain rfl : spot = none := by simpa [Addr.add] using World.cell?_spot hc0
      refine ⟨l, (RepL.nil _ _).cons ?_, by simp [Value.oneCell'], hbulk, h8⟩
      have hlm : (l.map cells).length = len := by simp [h1]
      have hb : b < cx.w.heap.size := by
        have : (cx.w.cells? 0 ⟨b, o, none⟩ 1) = some [vs[0]] := World.cells?_of_each (Nat.zero_le _) rfl (fun i hi => by
          obtain rfl : i = 0 := by omega
          simpa using hc0)
        exact World.cells?_block this (by omega)
      have := Rep.vs (cx := cx) (z := true) sz (l.map cells) b o cap vs (hΦ b hb) hpos (by omega) h6 h2.len h5 (fun j x hx => by
        have hj : j < vs.length := (List.getElem?_eq_some_iff.1 hx).1
        rw [← hx, ← h3 j hj]
        unfold Addr.add
        split
        · rename_i hj0; subst hj0; rfl
        · rfl) h2.rep
      rwa [hlm] at this
def structOf (P : Program) (t : TypeId) : Option (List (TypeId × Nat × Nat)) := match P.underlying t with | some (.struct fs) => some (fs.toList.map fun f => (f.type, f.offset, P.cellsOf f.type)) | _ => none
def TellsF (enc : TypeId × Value → H) (P : Program) (cx : Cx) (n : Nat) (fl : List (TypeId × Nat × Nat)) (o : Nat) {α : Type} (cells : α → List AV) (size : α → Nat) (ok : α → Prop) : Prop :=
  ∀ (cs : List Value) (xs : List (DataW H × List MemPlace)), xs.length = fl.length → (∀ (i : Nat) f, fl[i]? = some f → DataW.trod enc P cx.w 0 (fun _ => true) true n f.1 ((cs.drop f.2.1).take f.2.2) = xs[i]?) →
    (∀ e, (fl.foldl (fun o f => o + f.2.2) o) = e → cs.length = e) → ∃ a : α, RepL cx true (cells a) (cs.drop o) ∧ (∀ v ∈ cs.drop o, v.oneCell' = true) ∧ size a ≤ Rows.uptoBulkAll (xs.map (·.1)) ∧ ok a
theorem tellsF_nil {n o : Nat} : TellsF enc P cx n [] o (fun _ : Unit => []) (fun _ => 0) (fun _ => True) := by
  intro cs xs hx _ he
  have hl : cs.length = o := he o rfl
  have hd : cs.drop o = [] := List.drop_of_length_le (by omega)
  exact ⟨(), by rw [hd]; exact RepL.nil _ _, by rw [hd]; simp, by simp, trivial⟩
theorem tellsF_cons {n o k t : Nat} {fl : List (TypeId × Nat × Nat)} {α β : Type} {cells : α → List AV} {size : α → Nat} {ok : α → Prop} {cells' : β → List AV} {size' : β → Nat} {ok' : β → Prop}
    (h : Tells enc P cx n t cells size ok) (hs : TellsF enc P cx n fl (o + k) cells' size' ok') :
    TellsF enc P cx n ((t, o, k) :: fl) o (fun p : α × β => cells p.1 ++ cells' p.2) (fun p => size p.1 + size' p.2) (fun p => ok p.1 ∧ ok' p.2) := by
  intro cs xs hx hf he
  cases xs with
  | nil => simp at hx
  | cons x xs =>
    obtain ⟨a, r0, o0, s0, k0⟩ := h _ _ (hf 0 _ rfl)
    obtain ⟨b, r1, o1, s1, k1⟩ := hs cs xs (by simpa using hx) (fun i f hi => hf (i + 1) f hi) he
    refine ⟨(a, b), ?_, ?_, ?_, k0, k1⟩
    · have := r0.append r1
      rwa [← List.drop_drop, List.take_append_drop] at this
    · intro v hv
      rw [← List.take_append_drop k (cs.drop o), List.drop_drop] at hv
      rcases List.mem_append.1 hv with h | h
      · exact o0 v h
      · exact o1 v h
    · simp only [List.map_cons, Rows.uptoBulkAll]; omega
theorem tells_struct {n : Nat} {t : TypeId} {fl : List (TypeId × Nat × Nat)} (ht : structOf P t = some fl) (hsz : fl.foldl (fun o f => o + f.2.2) 0 = P.cellsOf t) {α : Type} {cells : α → List AV} {size : α → Nat} {ok : α → Prop}
    (h : TellsF enc P cx n fl 0 cells size ok) : Tells enc P cx (n + 1) t cells (fun a => size a + 1) ok := by
  intro cs x hx
  unfold structOf at ht
  split at ht
  · rename_i fs hu
    simp only [Option.some.injEq] at ht
    subst ht
    obtain ⟨xs, n', hn, rfl, h1, h2, h3⟩ := DataW.trod_struct hu hx
    obtain rfl : n = n' := by omega
    obtain ⟨a, r, o, s, k⟩ := h cs xs (by simp [h2]) (fun i f hf => by
      rw [List.getElem?_map] at hf
      obtain ⟨g, hg, rfl⟩ := Option.map_eq_some_iff.1 hf
      exact h3 i g (by simpa using hg)) (fun e he => by rw [← he, hsz]; exact h1)
    refine ⟨a, by simpa using r, by simpa using o, ?_, k⟩
    simp only [Rows.uptoBulk]; omega
  · cases ht
def cx0 (W : World) : Cx := ⟨W, (· < W.heap.size), fun _ => 0, fun _ => 0, []⟩
def ArgOk (enc : TypeId × Value → H) (P : Program) (W : World) (base : Nat) (t : TypeId) {α : Type} (av : α → AV) (size : α → Nat) (ok : α → Prop) : Prop :=
  ∀ v d p, Value.okWide P W .any base t v → DataW.Trod enc P W 0 (fun _ => true) true t v d p → ∃ a : α, Rep (cx0 W) false (av a) v ∧ size a ≤ Rows.uptoBulk d ∧ ok a
theorem arg_struct {W : World} {base : Nat} {t : TypeId} {fs : Array Field} (ht : P.underlying t = some (.struct fs)) {α : Type} {cells : α → List AV} {size : α → Nat} {ok : α → Prop} (h : ∀ n, Tells enc P (cx0 W) n t cells size ok) :
    ArgOk enc P W base t (fun a => .agg (cells a)) size ok := by
  intro v d p hv ⟨m, hm⟩
  obtain ⟨cs, rfl, hcs⟩ := okWide_struct ht hv
  obtain ⟨a, hr, _, hs, hk⟩ := h m _ _ hm
  refine ⟨a, ?_, hs, hk⟩
  have := Rep.agg (cells a) cs.toList hr.len (fun j c x a b => (hr.rep j c x a b).weak)
  simpa using this
theorem arg_one {W : World} {base : Nat} {t : TypeId} {α : Type} {c : α → AV} {size : α → Nat} {ok : α → Prop} (hone : ∀ v, Value.okWide P W .any base t v → v.cells = #[v]) (h : ∀ n, Tells enc P (cx0 W) n t (fun a => [c a]) size ok) :
    ArgOk enc P W base t c size ok := by
  intro v d p hv ⟨m, hm⟩
  rw [hone v hv] at hm
  obtain ⟨a, hr, _, hs, hk⟩ := h m _ _ hm
  exact ⟨a, hr.head.weak, hs, hk⟩
theorem one_int {W : World} {base : Nat} {t : TypeId} {k : IntKind} (ht : P.underlying t = some (.int k)) : ∀ v, Value.okWide P W .any base t v → v.cells = #[v] := by
  intro v hv; obtain ⟨n, rfl⟩ := okWide_int ht hv; rfl
theorem one_slice {W : World} {base : Nat} {t e : TypeId} (ht : P.underlying t = some (.slice e)) : ∀ v, Value.okWide P W .any base t v → v.cells = #[v] := by
  intro v hv; obtain ⟨a, len, cap, rfl⟩ := okWide_slice ht hv; rfl
theorem one_string {W : World} {base : Nat} {t : TypeId} (ht : P.underlying t = some .string) : ∀ v, Value.okWide P W .any base t v → v.cells = #[v] := by
  intro v hv; obtain ⟨s, rfl⟩ := okWide_string ht hv; rfl
theorem one_bool {W : World} {base : Nat} {t : TypeId} (ht : P.underlying t = some .bool) : ∀ v, Value.okWide P W .any base t v → v.cells = #[v] := by
  intro v hv; obtain ⟨s, rfl⟩ := okWide_bool ht hv; rfl
def ArgsOk (enc : TypeId × Value → H) (P : Program) (W : World) (base : Nat) (ts : List TypeId) (good : List AV → Prop) : Prop :=
  ∀ vs ds p, (∀ (j : Nat) t v, ts[j]? = some t → vs[j]? = some v → Value.okWide P W .any base t v) → DataW.TrodAll enc P W 0 (fun _ => true) true ts vs ds p → Rows.uptoBulkAll ds ≤ 1048576 →
    ∃ avs, RepL (cx0 W) false avs vs ∧ good avs
theorem args_nil {W : World} {base : Nat} {good : List AV → Prop} (h : good []) : ArgsOk enc P W base [] good := by
  intro vs ds p _ ht _
  obtain ⟨rfl, rfl, rfl⟩ := trodAll_nil ht
  exact ⟨[], RepL.nil _ _, h⟩
theorem args_cons {W : World} {base : Nat} {t : TypeId} {ts : List TypeId} {good : List AV → Prop} {α : Type} {av : α → AV} {size : α → Nat} {ok : α → Prop} (h : ArgOk enc P W base t av size ok)
    (hs : ∀ a, ok a → size a ≤ 1048576 → ArgsOk enc P W base ts (fun l => good (av a :: l))) : ArgsOk enc P W base (t :: ts) good := by
  intro vs ds p hv ht hb
  obtain ⟨v, vs', d, ds', p', q, rfl, rfl, rfl, h0, r0⟩ := trodAll_cons ht
  simp only [Rows.uptoBulkAll] at hb
  obtain ⟨a, hr, hsz, hk⟩ := h v d p' (hv 0 _ _ rfl rfl) h0
  obtain ⟨avs, hr', hg⟩ := hs a hk (by omega) vs' ds' q (fun j t v h1 h2 => hv (j + 1) t v h1 h2) r0 (by omega)
  exact ⟨av a :: avs, hr'.cons hr, hg⟩
theorem below_all (hl : laidOutB P = true) {W W' : World} (hb : Below W.heap.size W W') : ∀ (ts : List TypeId) (vs : List Value) (ds : List (DataW H)) (ps : List MemPlace), ts.all (fun t => P.readableRec t && decide (t < P.types.size)) = true →
    DataW.TrodAll enc P W 0 (fun _ => true) true ts vs ds ps → DataW.TrodAll enc P W' 0 (fun b => decide (b < W.heap.size)) true ts vs ds ps
  | [], vs, ds, ps, _, h => by obtain ⟨rfl, rfl, rfl⟩ := trodAll_nil h; exact trodAll_mk0
  | t :: ts, vs, ds, ps, hr, h => by
    obtain ⟨v, vs', d, ds', p, q, rfl, rfl, rfl, h0, r0⟩ := trodAll_cons h
    simp only [List.all_cons, Bool.and_eq_true, decide_eq_true_eq] at hr
    have lt0 : ∀ x ∈ p, x.block < W.heap.size := by obtain ⟨m, hm⟩ := h0; exact DataW.trod_lt m _ _ _ hm
    exact trodAll_cons_mk (Below.trod hl hr.1.1 hr.1.2 h0 hb lt0) (below_all hl hb ts vs' ds' q hr.2 r0)
theorem trod_len {W : World} : ∀ {ts : List TypeId} {vs : List Value} {ds : List (DataW H)} {ps : List MemPlace}, DataW.TrodAll enc P W 0 (fun _ => true) true ts vs ds ps → ds.length = ts.length
  | [], vs, ds, ps, h => by obtain ⟨rfl, rfl, rfl⟩ := trodAll_nil h; rfl
  | t :: ts, vs, ds, ps, h => by obtain ⟨v, vs', d, ds', p', q, rfl, rfl, rfl, h0, r0⟩ := trodAll_cons h; simp [trod_len r0]
theorem law_contract {C : Program} {f : FuncId} {fn : Func} {spec : ChangeSpec} {ts : List TypeId} (laid : laidOutB C = true) (hp : fn.params.toList = ts) (hres : fn.resultTypes.toList = [4]) (hb4 : C.underlying 4 = some .bool)
    (hvars : spec.vars = []) (hall : ts.all (fun t => C.readableRec t && decide (t < C.types.size)) = true)
    (hspec : ∀ (H : Type) (enc : TypeId × Value → H) (W W' : World) (args : Array Value) (ds : List (DataW H)) (p : List MemPlace), ds.length = ts.length →
      DataW.TrodAll enc C W 0 (fun _ => true) true ts args.toList ds p → DataW.TrodAll enc C W' 0 (fun b => decide (b < W.heap.size)) true ts args.toList ds p → DataW.Whole enc C fn.params.toList spec.vars false W args.toList ds [] p → Below W.heap.size W W' →
      spec.post enc C fn false true false false W args (.bool true) W')
    (H : Type) (enc : TypeId × Value → H) (W : World) (base : Nat) (args : Array Value) (ds gs : List (DataW H)) (before : List MemPlace)
    (hval : ∀ (j : Nat) t v, fn.params[j]? = some t → args[j]? = some v → Value.okWide C W .any base t v)
    (hW : DataW.Whole enc C fn.params.toList spec.vars false W args.toList ds gs before) (hk : Rows.uptoSmall H (ds ++ gs) = true)
    (hargs : ArgsOk enc C W base ts (fun avs => ACalls C f avs [] (fun e H' => e = .ret (.v (.bool true)) ∧ H' = []))) :
    Calls C f args W fun e W' => ∃ v, e = .returned v ∧ spec.post enc C fn false true false false W args v W' := by
  have hW' := hW
  obtain ⟨p, q, hA0, hV, rfl, hfz, hnd⟩ := hW
  rw [hvars] at hV
  obtain ⟨rfl, rfl⟩ := trodVars_none hV
  have hA : DataW.TrodAll enc C W 0 (fun _ => true) true ts args.toList ds p := by rw [← hp]; exact hA0
  have hb : Rows.uptoBulkAll ds ≤ 1048576 := by
    have h : Rows.uptoBulkAll (ds ++ []) ≤ 1048576 := of_decide_eq_true hk
    simpa using h
  obtain ⟨avs, hr, hg⟩ := hargs args.toList ds p (fun j t v h1 h2 => hval j t v (by rw [← hp] at h1; simpa using h1) (by simpa using h2)) hA hb
  have hrel : HRel W.heap.size W (cx0 W) := ⟨Below.refl _ _, Nat.le_refl _, fun b h => h, fun k bl h => by simp [cx0] at h, fun k k' bl bl' h => by simp [cx0] at h⟩
  have walk := hg W.heap.size W (cx0 W) args.toList hrel rfl hr
  rw [Array.toArray_toList] at walk
  have hlen : ds.length = ts.length := trod_len hA
  refine walk.mono fun e W' he => ?_
  cases e with
  | returned y =>
    obtain ⟨cx', r, rfl, hr', _, hy, hR⟩ := he
    obtain ⟨hr1, _⟩ := hR
    obtain rfl : r = .v (.bool true) := by cases hr1; rfl
    obtain rfl : y = .bool true := by cases hy; rfl
    have bel := hr'.below
    exact ⟨_, rfl, hspec H enc W cx'.w args ds _ hlen hA (below_all laid bel ts args.toList ds _ hall hA) (by simpa using hW') bel⟩
  | panicked ch =>
    obtain ⟨_, x, y, _, _, _, _, _, hR⟩ := he
    cases hR.1
  | outgrown => exact he.elim
end
end Go.Proofs.YtganjkhdlehhdaaGreat.Lift
