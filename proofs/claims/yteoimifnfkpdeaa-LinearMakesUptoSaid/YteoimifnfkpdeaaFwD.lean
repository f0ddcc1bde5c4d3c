/- Operations over abstract values, one by one: moves, loads, stores, new variables, built values. -/
import Derived.Test.YteoimifnfkpdeaaFwC
set_option linter.unusedVariables false
set_option linter.unusedSimpArgs false
namespace Go.Mu
open Go.RowKit (Below)

/-! ### The types' tables -/
def szOf (P : Program) (t : TypeId) : Option Nat := (P.info? t).map (·.size)
def bytesOf (P : Program) (t : TypeId) : Option Nat := (P.info? t).map (·.bytes)
def isAggD : TypeDesc → Bool
  | .struct _ | .array _ _ => true
  | _ => false
def aggOf (P : Program) (t : TypeId) : Option Bool := (P.underlying t).map isAggD
def elOf (P : Program) (t : TypeId) : Option TypeId := match P.underlying t with | some (.slice e) => some e | _ => none
def fldOf (P : Program) (s : TypeId) (i : Nat) : Option (Nat × Nat × Bool) :=
  match P.underlying s with
  | some (.struct fs) => match fs[i]? with
    | some f => match szOf P f.type, aggOf P f.type with
      | some sz, some b => some (f.offset, sz, b)
      | _, _ => none
    | none => none
  | _ => none
def zeroOf (P : Program) (t : TypeId) : Option Value := (P.info? t).bind (·.zero)

theorem run_sizeOf {P : Program} {t : TypeId} {n : Nat} (h : szOf P t = some n) (w : World) : (sizeOf t).run P w = .ok n w := by
  unfold szOf at h
  cases hi : P.info? t with
  | none => rw [hi] at h; cases h
  | some i => rw [hi] at h; simp at h; subst h; simp [sizeOf, typeInfo, hi]
theorem run_zeroOf {P : Program} {t : TypeId} {z : Value} (h : zeroOf P t = some z) (w : World) : (zeroValue t).run P w = .ok z w := by
  unfold zeroOf at h
  cases hi : P.info? t with
  | none => rw [hi] at h; cases h
  | some i => rw [hi] at h; simp at h; simp [zeroValue, typeInfo, hi, h]
theorem run_isAgg {P : Program} {t : TypeId} {b : Bool} (h : aggOf P t = some b) (w : World) : (isAgg t).run P w = .ok b w := by
  unfold aggOf at h
  cases hi : P.underlying t with
  | none => rw [hi] at h; cases h
  | some d =>
    rw [hi] at h; simp at h; subst h
    cases d <;> simp [isAgg, run_underlying hi, isAggD]

/-! ### Cells of a value -/
def avCells : AV → Option (List AV)
  | .agg cs => some cs
  | .v x => some (x.cells.toList.map .v)
  | .junk => none
  | x => some [x]
def AV.one : AV → Bool
  | .agg _ | .tup _ | .junk => false
  | .v x => x.oneCell'
  | .hs .. | .rp .. => true
  | _ => true
/-- A value that leads to no block of the call's own. -/
def AV.frzB : AV → Bool
  | .v _ | .vs _ _ | .vp _ | .junk => true
  | .ifc _ x => x.frzB
  | .agg [] => true
  | _ => false

theorem RepL.of_v (cx : Cx) (z : Bool) (xs : List Value) : RepL cx z (xs.map .v) xs := by
  refine ⟨by simp, fun j c x h1 h2 => ?_⟩
  rw [List.getElem?_map, h2] at h1
  simp at h1; subst h1; exact .v x
theorem Rep.v_inv {cx : Cx} {z : Bool} {x y : Value} (h : Rep cx z (.v x) y) : y = x := by cases h; rfl
theorem Rep.agg_inv {cx : Cx} {z : Bool} {cs : List AV} {y : Value} (h : Rep cx z (.agg cs) y) : ∃ vals : List Value, y = .agg vals.toArray ∧ RepL cx z cs vals := by
  cases h with
  | agg _ vals hn hr => exact ⟨vals, rfl, hn, hr⟩
theorem Rep.tup_inv {cx : Cx} {z : Bool} {cs : List AV} {y : Value} (h : Rep cx z (.tup cs) y) : ∃ vals : List Value, y = .tuple vals.toArray ∧ RepL cx z cs vals := by
  cases h with
  | tup _ vals hn hr => exact ⟨vals, rfl, hn, hr⟩
theorem rep_agg {cx : Cx} {z : Bool} {cs : List AV} {vals : List Value} (h : RepL cx z cs vals) : Rep cx z (.agg cs) (.agg vals.toArray) := .agg cs vals h.len h.rep
theorem rep_tup {cx : Cx} {z : Bool} {cs : List AV} {vals : List Value} (h : RepL cx z cs vals) : Rep cx z (.tup cs) (.tuple vals.toArray) := .tup cs vals h.len h.rep

theorem avCells_rep {cx : Cx} {a : AV} {cs : List AV} {y : Value} (hc : avCells a = some cs) (h : Rep cx false a y) : ∃ vals : List Value, y.cells = vals.toArray ∧ RepL cx false cs vals := by
  have one : y.cells = #[y] → ∃ vals : List Value, y.cells = vals.toArray ∧ RepL cx false [a] vals := fun he => ⟨[y], by rw [he], (RepL.nil cx false).cons h⟩
  have cell1 : ∀ z : Value, z.oneCell' = true → z.cells = #[z] := fun z hz => by cases z <;> first | rfl | simp [Value.oneCell'] at hz
  cases h with
  | v x => simp [avCells] at hc; subst hc; exact ⟨y.cells.toList, by simp, RepL.of_v _ _ _⟩
  | agg cs' vals hn hr => simp [avCells] at hc; subst hc; exact ⟨vals, rfl, hn, hr⟩
  | junk y => simp [avCells] at hc
  | rp k ver i off y ho bl hk hp => simp [avCells] at hc; subst hc; exact one (cell1 _ ho)
  | hs k off n ver y ho bl hk hp => simp [avCells] at hc; subst hc; exact one (cell1 _ ho)
  | _ => simp [avCells] at hc; subst hc; exact one rfl

theorem Rep.one {cx : Cx} {z : Bool} {a : AV} {y : Value} (h : Rep cx z a y) (ha : a.one = true) : y.oneCell' = true := by
  cases h with
  | v x => simpa [AV.one] using ha
  | agg cs vals hn hr => simp [AV.one] at ha
  | tup cs vals hn hr => simp [AV.one] at ha
  | junk y => simp [AV.one] at ha
  | rp k ver i off y ho bl hk hp => exact ho
  | hs k off n ver y ho bl hk hp => exact ho
  | _ => rfl
theorem RepL.one {cx : Cx} {z : Bool} {cs : List AV} {vals : List Value} (h : RepL cx z cs vals) (ha : cs.all AV.one = true) : ∀ y ∈ vals, y.oneCell' = true := by
  intro y hy
  obtain ⟨j, hj⟩ := List.mem_iff_getElem?.1 hy
  have hlt : j < cs.length := by rw [h.len]; exact (List.getElem?_eq_some_iff.1 hj).1
  have hc : cs[j]? = some cs[j] := List.getElem?_eq_getElem hlt
  exact (h.rep j _ y hc hj).one (List.all_eq_true.1 ha _ (List.getElem_mem hlt))

theorem Rep.strong {cx : Cx} {a : AV} {y : Value} (h : Rep cx false a y) (ha : a.frzB = true) : Rep cx true a y := by
  generalize hb : false = b at h
  induction h with
  | v x => exact .v x
  | vs0 sz a cap => exact .vs0 sz a cap
  | vs sz es b o cap vals hf hz hcap hl hn ho hc hr _ => exact .vs sz es b o cap vals hf hz hcap hl hn ho hc hr
  | vp cs b o vals hf hn hc hr _ => exact .vp cs b o vals hf hn hc hr
  | ifc t x y h ih => exact .ifc t x y (ih (by simpa [AV.frzB] using ha) hb)
  | junk y => exact .junk y
  | agg cs vals hn hr ih =>
    cases cs with
    | nil => exact .agg [] vals hn (fun j c x h => by simp at h)
    | cons c cs => simp [AV.frzB] at ha
  | _ => simp [AV.frzB] at ha
theorem RepL.strong {cx : Cx} {cs : List AV} {vals : List Value} (h : RepL cx false cs vals) (ha : cs.all AV.frzB = true) : RepL cx true cs vals :=
  ⟨h.len, fun j c x h1 h2 => (h.rep j c x h1 h2).strong (List.all_eq_true.1 ha _ (List.mem_of_getElem? h1))⟩

/-! ### Reading through a pointer -/
/-- The cells from a place on. -/
def cellsAt (H : List Blk) : AV → Option (List AV)
  | .vp cs => some cs
  | .bp k off => match H[k]? with | some (.box _ cs) => some (cs.drop off) | _ => none
  | .rp k ver i off => match H[k]? with | some (.row _ _ es) => if es.length = ver then (es[i]?).map (·.drop off) else none | _ => none
  | _ => none

/-- Cells of a row: element i, from a place on. -/
theorem flatten_at {α : Type} : ∀ (es : List (List α)) (sz i : Nat) (e : List α), (∀ e ∈ es, e.length = sz) → es[i]? = some e → ∀ (j : Nat) c, e[j]? = some c → es.flatten[i * sz + j]? = some c
  | [], sz, i, e, _, h => by simp at h
  | d :: ds, sz, i, e, hl, h => by
    intro j c hc
    have hd : d.length = sz := hl d (by simp)
    cases i with
    | zero =>
      simp at h; subst h
      rw [List.flatten_cons, List.getElem?_append_left (by have := (List.getElem?_eq_some_iff.1 hc).1; omega)]
      simpa using hc
    | succ i =>
      have ih := flatten_at ds sz i e (fun e he => hl e (by simp [he])) (by simpa using h) j c hc
      rw [List.flatten_cons, List.getElem?_append_right (by rw [hd, Nat.succ_mul]; omega)]
      rw [show (i + 1) * sz + j - d.length = i * sz + j by rw [hd, Nat.succ_mul]; omega]
      exact ih
theorem flatten_len {α : Type} : ∀ (es : List (List α)) (sz : Nat), (∀ e ∈ es, e.length = sz) → es.flatten.length = es.length * sz
  | [], sz, _ => by simp
  | d :: ds, sz, hl => by
    rw [List.flatten_cons, List.length_append, flatten_len ds sz (fun e he => hl e (by simp [he])), hl d (by simp), List.length_cons, Nat.succ_mul]; omega

/-- A pointer, and the cells behind it as they lie in memory. -/
theorem cellsAt_rep {B : Nat} {w0 : World} {cx : Cx} (h : HRel B w0 cx) {a : AV} {cs : List AV} {y : Value} (hc : cellsAt cx.H a = some cs) (hr : Rep cx false a y) :
    ∃ (b o : Nat) (vals : List Value), y = .pointer (some ⟨b, o, none⟩) ∧ RepL cx false cs vals ∧ ∀ (j : Nat) x, vals[j]? = some x → cx.w.cell? ⟨b, o + j, none⟩ = some x := by
  cases hr with
  | vp cs' b o vals hf hn hcc hrr =>
    simp [cellsAt] at hc; subst hc
    exact ⟨b, o, vals, rfl, (RepL.mk hn hrr).weak, hcc⟩
  | bp k off bl hk hf =>
    simp only [cellsAt] at hc
    split at hc
    · rename_i t cs' hk'
      simp at hc; subst hc
      obtain ⟨h1, h2, vals, h3, h4⟩ := h.blk k _ hk'
      refine ⟨cx.κ k, off, vals.drop off, rfl, h4.drop off, fun j x hx => ?_⟩
      rw [cell_of_row _ _ _ _ _ _ h3]
      rw [List.getElem?_drop] at hx
      simpa using hx
    · cases hc
  | rp k ver i off y ho bl hk hp =>
    simp only [cellsAt] at hc
    split at hc
    · rename_i t sz es hk'
      split at hc
      · rename_i hv
        rw [hk'] at hk; cases hk
        rcases hp with hf | ⟨t', sz', es', he, hle, hy⟩
        · simp [Blk.fixed] at hf
        · cases he
          obtain ⟨h1, h2, h3, h4, h5, h6, vals, h7, h8, h9, h10⟩ := h.blk k _ hk'
          cases hi : es[i]? with
          | none => rw [hi] at hc; simp at hc
          | some e =>
            rw [hi] at hc; simp at hc; subst hc
            have hel : e.length = sz := h4 e (List.mem_of_getElem? hi)
            have hil : i < es.length := (List.getElem?_eq_some_iff.1 hi).1
            have hseg : ∀ (j : Nat) c, (e.drop off)[j]? = some c → es.flatten[i * sz + off + j]? = some c := fun j c hj => by
              rw [List.getElem?_drop] at hj
              rw [Nat.add_assoc]
              exact flatten_at es sz i e h4 hi _ c hj
            refine ⟨cx.κ k, i * sz + off, ((vals.take (es.length * sz)).drop (i * sz + off)).take (sz - off), hy hv, ⟨?_, fun j c x h1' h2' => ?_⟩, fun j x hx => ?_⟩
            · have : (i + 1) * sz ≤ es.length * sz := Nat.mul_le_mul_right _ hil
              have : es.length * sz ≤ cx.γ k * sz := Nat.mul_le_mul_right _ h5
              simp only [List.length_drop, List.length_take, hel, h8]
              rw [Nat.succ_mul] at *
              omega
            · have hj := hseg j c h1'
              rw [List.getElem?_take] at h2'
              split at h2'
              · rw [List.getElem?_drop] at h2'; exact h9.rep _ c x hj h2'
              · cases h2'
            · rw [cell_of_row _ _ _ _ _ _ h7]
              rw [List.getElem?_take] at hx
              split at hx
              · rw [List.getElem?_drop, List.getElem?_take] at hx
                split at hx
                · simpa using hx
                · cases hx
              · cases hx
      · cases hc
    · cases hc
  | _ => simp [cellsAt] at hc

def aload (agg : Bool) (sz : Nat) (cs : List AV) : Option AV := if agg then (if sz ≤ cs.length then some (.agg (cs.take sz)) else none) else cs[0]?

theorem run_loadAt {B : Nat} {w0 : World} {P : Program} {cx : Cx} (h : HRel B w0 cx) {t : TypeId} {sz : Nat} {agg : Bool} (hz : szOf P t = some sz) (ha : aggOf P t = some agg) {a : AV} {cs : List AV} {r : AV} {y : Value}
    (hc : cellsAt cx.H a = some cs) (hl : aload agg sz cs = some r) (hr : Rep cx false a y) : ∃ x, (Instr.loadAt t y).run P cx.w = .ok x cx.w ∧ Rep cx false r x := by
  obtain ⟨b, o, vals, rfl, h1, h2⟩ := cellsAt_rep h hc hr
  unfold aload at hl
  cases agg with
  | true =>
    simp only [if_true] at hl
    split at hl
    · rename_i hle
      simp at hl; subst hl
      have hlen : (vals.take sz).length = sz := by have := h1.len; simp; omega
      have hld := run_loadCells_list (P := P) cx.w ⟨b, o, none⟩ (vals.take sz) (fun j v hv => by
        rw [List.getElem?_take] at hv
        split at hv
        · rw [Addr.add_lit]; exact h2 j v hv
        · cases hv)
      rw [hlen] at hld
      refine ⟨.agg (vals.take sz).toArray, ?_, rep_agg (h1.take sz)⟩
      simp only [Instr.loadAt, Instr.sureAddr, loadVar, Sem.run_bind, Sem.run_pure, Result.andThen_ok, run_isAgg ha, if_true, run_sizeOf hz, hld]
    · cases hl
  | false =>
    simp at hl
    obtain ⟨x, hx, hrx⟩ := h1.get (j := 0) (c := r) hl
    refine ⟨x, ?_, hrx⟩
    have hcell := h2 0 x hx
    simp only [Nat.add_zero] at hcell
    simp [Instr.loadAt, Instr.sureAddr, loadVar, Sem.run_bind, Sem.run_pure, Result.andThen_ok, run_isAgg ha, hcell]

/-! ### Writing through a pointer -/
def spl {α : Type} (cs : List α) (off : Nat) (xs : List α) : List α := cs.take off ++ xs ++ cs.drop (off + xs.length)

theorem spl_length {α : Type} (cs : List α) (off : Nat) (xs : List α) (h : off + xs.length ≤ cs.length) : (spl cs off xs).length = cs.length := by
  simp [spl]; omega
theorem spl_mem {α : Type} {p : α → Prop} {cs xs : List α} {off : Nat} (h : ∀ x ∈ cs, p x) (k : ∀ x ∈ xs, p x) : ∀ x ∈ spl cs off xs, p x := by
  intro x hx
  simp only [spl, List.mem_append] at hx
  rcases hx with (hx | hx) | hx
  · exact h x (List.mem_of_mem_take hx)
  · exact k x hx
  · exact h x (List.mem_of_mem_drop hx)
theorem spl_take {α : Type} (l : List α) (o n : Nat) (xs : List α) (h : o + xs.length ≤ n) (hn : n ≤ l.length) : (spl l o xs).take n = spl (l.take n) o xs := by
  have e1 : (l.take o).length = o := by simp; omega
  unfold spl
  rw [List.take_append, List.take_of_length_le (by simp; omega), List.take_take, Nat.min_eq_left (by omega), List.drop_take]
  congr 2
  simp; omega
theorem RepL.spl {cx : Cx} {z : Bool} {cs ds : List AV} {xs ys : List Value} (h : RepL cx z cs xs) (off : Nat) (k : RepL cx z ds ys) : RepL cx z (spl cs off ds) (spl xs off ys) := by
  unfold Mu.spl
  rw [k.len]
  exact ((h.take off).append k).append (h.drop _)

theorem run_storeCells_row {P : Program} {cx : Cx} {g o : Nat} {t : TypeId} {cur vs : List Value} (hg : cx.w.heap[g]? = some (.cells cur.toArray t (0, 0))) (hl : o + vs.length ≤ cur.length) (h1 : ∀ v ∈ vs, v.oneCell' = true) :
    (storeCells ⟨g, o, none⟩ vs).run P cx.w = .ok () (cx.w.setRow g (spl cur o vs).toArray) := by
  have := run_storeCells_at P g o t vs 0 cur.toArray cx.w hg (by simpa using hl) h1
  simpa [spl] using this

/-- The blocks behind a store. -/
def astore (H : List Blk) (p : AV) (xs : List AV) : Option (List Blk) :=
  match p with
  | .bp k off => match H[k]? with | some (.box t cs) => if off + xs.length ≤ cs.length then some (H.set k (.box t (spl cs off xs))) else none | _ => none
  | .rp k ver i off => match H[k]? with
    | some (.row t sz es) => if es.length = ver then (match es[i]? with | some e => if off + xs.length ≤ e.length then some (H.set k (.row t sz (es.set i (spl e off xs)))) else none | none => none) else none
    | _ => none
  | _ => none

theorem spl_flatten {α : Type} : ∀ (es : List (List α)) (sz i off : Nat) (e xs : List α), (∀ e ∈ es, e.length = sz) → es[i]? = some e → off + xs.length ≤ sz →
    (es.set i (spl e off xs)).flatten = spl es.flatten (i * sz + off) xs
  | [], sz, i, off, e, xs, _, h, _ => by simp at h
  | d :: ds, sz, i, off, e, xs, hl, h, hx => by
    have hd : d.length = sz := hl d (by simp)
    cases i with
    | zero =>
      simp at h; subst h
      simp only [List.set_cons_zero, List.flatten_cons, spl, Nat.zero_mul, Nat.zero_add]
      rw [List.take_append_of_le_length (by omega), List.drop_append_of_le_length (by omega)]
      simp [List.append_assoc]
    | succ i =>
      have ih := spl_flatten ds sz i off e xs (fun e he => hl e (by simp [he])) (by simpa using h) hx
      rw [List.set_cons_succ, List.flatten_cons, List.flatten_cons, ih]
      simp only [spl]
      rw [show (i + 1) * sz + off = d.length + (i * sz + off) by rw [hd, Nat.succ_mul]; omega]
      rw [List.take_length_add_append, Nat.add_assoc d.length, List.drop_length_add_append]
      simp [List.append_assoc]

theorem run_storeAt {B : Nat} {w0 : World} {P : Program} {cx : Cx} (h : HRel B w0 cx) {t : TypeId} {sz : Nat} (hz : szOf P t = some sz) {p v : AV} {xs : List AV} {H' : List Blk} {y x : Value}
    (hx : avCells v = some xs) (hlen : xs.length = sz) (hone : xs.all AV.one = true) (hs : astore cx.H p xs = some H') (hp : Rep cx false p y) (hv : Rep cx false v x) :
    ∃ cx', (Instr.storeAt t y x).run P cx.w = .ok () cx'.w ∧ HRel B w0 cx' ∧ Le cx cx' ∧ cx'.H = H' := by
  obtain ⟨vals, hcx, hrv⟩ := avCells_rep hx hv
  have hvl : vals.length = sz := by rw [← hrv.len, hlen]
  have h1 := hrv.one hone
  cases hp with
  | bp k off bl hk hf =>
    simp only [astore] at hs
    split at hs
    · rename_i t' cs hk'
      split at hs
      · rename_i hle
        simp at hs; subst hs
        obtain ⟨b1, b2, cur, b3, b4⟩ := h.blk k _ hk'
        have hst := run_storeCells_row (P := P) (cx := cx) (o := off) b3 (vs := vals) (by rw [← b4.len, ← hrv.len]; exact hle) h1
        obtain ⟨c1, c2⟩ := put_box h hk' (b4.spl off hrv)
        refine ⟨_, ?_, c2, c1, rfl⟩
        simp only [Instr.storeAt, Instr.sureAddr, storeVar, Sem.run_bind, Sem.run_pure, Result.andThen_ok, run_sizeOf hz, hcx, List.size_toArray, hvl, ne_eq, not_true_eq_false, if_false]
        exact hst
      · cases hs
    · cases hs
  | rp k ver i off y ho bl hk hp =>
    simp only [astore] at hs
    split at hs
    · rename_i t' z es hk'
      split at hs
      · rename_i hver
        split at hs
        · rename_i e he
          split at hs
          · rename_i hle
            simp at hs; subst hs
            rw [hk'] at hk; cases hk
            rcases hp with hf | ⟨t'', sz', es', heq, hle', hy⟩
            · simp [Blk.fixed] at hf
            · cases heq
              obtain ⟨b1, b2, b3, b4, b5, b6, cur, b7, b8, b9, b10⟩ := h.blk k _ hk'
              have hel : e.length = z := b4 e (List.mem_of_getElem? he)
              have hil : i < es.length := (List.getElem?_eq_some_iff.1 he).1
              have hmul : (i + 1) * z ≤ es.length * z := Nat.mul_le_mul_right _ hil
              have hmul2 : es.length * z ≤ cx.γ k * z := Nat.mul_le_mul_right _ b5
              rw [Nat.succ_mul] at hmul
              have hxl : xs.length = vals.length := hrv.len
              rw [hy hver]
              have hst := run_storeCells_row (P := P) (cx := cx) (o := i * z + off) b7 (vs := vals) (by rw [b8]; omega) h1
              have hfl := spl_flatten es z i off e xs b4 he (by omega)
              obtain ⟨c1, c2⟩ := put_row (es' := es.set i (spl e off xs)) (vals' := spl cur (i * z + off) vals) h hk' (fun e' he' => by
                  rcases List.mem_or_eq_of_mem_set he' with hm | rfl
                  · exact b4 _ hm
                  · rw [spl_length _ _ _ hle, hel]) (by simp) (by simpa using b5) (by rw [spl_length _ _ _ (by rw [b8]; omega), b8]) (by
                  have ht : (spl cur (i * z + off) vals).take (es.length * z) = spl (cur.take (es.length * z)) (i * z + off) vals := spl_take _ _ _ _ (by omega) (by rw [b8]; exact hmul2)
                  rw [List.length_set, ht, hfl]
                  exact b9.spl _ hrv) (spl_mem b10 h1)
              refine ⟨_, ?_, c2, c1, rfl⟩
              simp only [Instr.storeAt, Instr.sureAddr, storeVar, Sem.run_bind, Sem.run_pure, Result.andThen_ok, run_sizeOf hz, hcx, List.size_toArray, hvl, ne_eq, not_true_eq_false, if_false]
              exact hst
          · cases hs
        · cases hs
      · cases hs
    · cases hs
  | _ => simp [astore] at hs

end Go.Mu
