/- Operations over abstract values, one by one (4): built values, slices, calls, functions as values. -/
import Derived.Test.YteoimifnfkpdeaaFwF
import Derived.Great.BuildSlice
set_option linter.unusedVariables false
set_option linter.unusedSimpArgs false
namespace Go.Mu
open Go.RowKit (Below)

/-! ### Built values -/
def afill (place : Nat → Option (Nat × Nat)) : List AV → List (Nat × AV) → Option (List AV)
  | cs, [] => some cs
  | cs, (i, v) :: rest =>
    match place i, avCells v with
    | some (off, sz), some xs => if xs.length = sz ∧ off + sz ≤ cs.length then afill place (spl cs off xs) rest else none
    | _, _ => none

theorem setSeg : ∀ (xs : List Value) (l : List Value) (off n : Nat), off + n + xs.length ≤ l.length →
    ((xs.zipIdx n).foldl (fun cs (c, j) => cs.setIfInBounds (off + j) c) l.toArray) = (spl l (off + n) xs).toArray
  | [], l, off, n, h => by simp [spl]
  | x :: xs, l, off, n, h => by
    simp only [List.length_cons] at h
    simp only [List.zipIdx_cons, List.foldl_cons, List.setIfInBounds_toArray]
    rw [setSeg xs _ off (n + 1) (by simp; omega)]
    congr 1
    have hlt : off + n < l.length := by omega
    simp only [spl, List.length_cons]
    rw [show off + (n + 1) = off + n + 1 by omega]
    rw [List.take_succ_eq_append_getElem (by simpa using hlt), List.getElem_set_self, List.take_set_of_le (Nat.le_refl _), List.drop_set_of_lt (by omega)]
    simp [List.append_assoc, Nat.add_assoc, Nat.add_comm 1]

theorem fill_rep {cx : Cx} {place place' : Nat → Option (Nat × Nat)} (hpp : ∀ i p, place i = some p → place' i = some p) : ∀ {parts : List (Nat × AV)} {vparts : List (Nat × Value)} {cs out : List AV} {vals : List Value}, RepL cx false cs vals → parts.length = vparts.length →
    (∀ (j : Nat) p q, parts[j]? = some p → vparts[j]? = some q → p.1 = q.1 ∧ Rep cx false p.2 q.2) → afill place cs parts = some out → ∃ ov : List Value, Instr.fill place' vals.toArray vparts = some ov.toArray ∧ RepL cx false out ov
  | [], [], cs, out, vals, hr, _, _, h => by simp [afill] at h; subst h; exact ⟨vals, rfl, hr⟩
  | [], _ :: _, _, _, _, _, hl, _, _ => by simp at hl
  | _ :: _, [], _, _, _, _, hl, _, _ => by simp at hl
  | (i, v) :: parts, (i', v') :: vparts, cs, out, vals, hr, hl, hp, h => by
    obtain ⟨h1, h2⟩ := hp 0 _ _ rfl rfl
    simp only at h1 h2
    subst h1
    unfold afill at h
    split at h
    · rename_i off sz xs hpl hxs
      split at h
      · rename_i hc
        obtain ⟨xv, hxv, hrx⟩ := avCells_rep hxs h2
        have hsz : xv.length = sz := by rw [← hrx.len]; exact hc.1
        have hle : off + sz ≤ vals.length := by rw [← hr.len]; exact hc.2
        obtain ⟨ov, e1, e2⟩ := fill_rep hpp (hr.spl off hrx) (by simpa using hl) (fun j p q a b => hp (j + 1) p q (by simpa using a) (by simpa using b)) h
        refine ⟨ov, ?_, e2⟩
        unfold Instr.fill
        rw [hpp _ _ hpl]
        simp only [hxv, List.size_toArray, hsz]
        rw [if_neg (by simp; omega)]
        rw [← e1]
        congr 1
        have := setSeg xv vals off 0 (by omega)
        simpa using this
      · cases h
    · cases h

/-- A type's zero cells, and where its parts lie. -/
def bldOf (P : Program) (t : TypeId) : Option (List Value × List (Nat × Nat)) :=
  match P.info? t, P.underlying t with
  | some it, some (.array n e) =>
    match it.zero, P.info? e with
    | some z, some ie => some (z.cells.toList, (List.range n).map fun i => (i * ie.size, ie.size))
    | _, _ => none
  | some it, some (.struct fields) =>
    match it.zero, fields.toList.mapM (fun f => (P.info? f.type).map fun i => (f.offset, i.size)) with
    | some z, some places => some (z.cells.toList, places)
    | _, _ => none
  | _, _ => none
/-- A slice's element type, its size, its zero cells, its bytes. -/
def slbOf (P : Program) (t : TypeId) : Option (TypeId × Nat × List Value × Nat) :=
  match P.underlying t with
  | some (.slice e) => match P.info? e with
    | some ie => match ie.zero with
      | some z => if z.cells.size = ie.size ∧ 0 < ie.size then some (e, ie.size, z.cells.toList, ie.bytes) else none
      | none => none
    | none => none
  | _ => none
theorem slbOf_spec {P : Program} {t e : TypeId} {sz by_ : Nat} {zc : List Value} (h : slbOf P t = some (e, sz, zc, by_)) :
    ∃ ie z, P.underlying t = some (.slice e) ∧ P.info? e = some ie ∧ ie.zero = some z ∧ z.cells.size = sz ∧ ie.size = sz ∧ 0 < sz ∧ z.cells.toList = zc ∧ ie.bytes = by_ := by
  unfold slbOf at h
  split at h
  · rename_i e' hu
    split at h
    · rename_i ie hi
      split at h
      · rename_i z hz
        split at h
        · rename_i hc
          simp only [Option.some.injEq, Prod.mk.injEq] at h
          obtain ⟨rfl, rfl, rfl, rfl⟩ := h
          exact ⟨ie, z, hu, hi, hz, hc.1, rfl, hc.2, rfl, rfl⟩
        · cases h
      · cases h
    · cases h
  · cases h

section
variable {P : Program} {o : Oper} {ρ : Operand → AV} {H : List Blk} {K pan : AV → List Blk → Prop}

theorem parts_rel {cx : Cx} {ρc : Operand → Value} (parts : Array (Nat × Operand)) (h : ∀ p ∈ parts, Rep cx false (ρ p.2) (ρc p.2)) : ∀ (j : Nat) (p : Nat × AV) (q : Nat × Value),
    (parts.toList.map fun (x : Nat × Operand) => (x.1, ρ x.2))[j]? = some p → ((parts.map fun (i, x) => (i, ρc x)).toList)[j]? = some q → p.1 = q.1 ∧ Rep cx false p.2 q.2 := by
  intro j p q hp hq
  simp only [Array.toList_map, List.getElem?_map] at hp hq
  cases hx : parts.toList[j]? with
  | none => rw [hx] at hp; simp at hp
  | some x =>
    rw [hx] at hp hq
    simp at hp hq
    subst hp; subst hq
    exact ⟨rfl, h x (by simpa using List.mem_of_getElem? hx)⟩

theorem mem_parts {parts : Array (Nat × Operand)} {p : Nat × Operand} (h : p ∈ parts) : p.2 ∈ (parts.toList.map (·.2)).toArray := by
  simp; exact ⟨p.1, by simpa using h⟩

theorem sound_build {t : TypeId} {parts : Array (Nat × Operand)} (ho : o.op = .build t parts)
    (h : bindO (bldOf P t) fun zp => bindO (afill (fun i => zp.2[i]?) (zp.1.map .v) (parts.toList.map fun x => (x.1, ρ x.2))) fun cs => K (.agg cs) H) : OpSem P o ρ H K pan := by
  obtain ⟨⟨zc, places⟩, hb, cs, hf, hK⟩ := h
  refine opsem_same fun cx ρc B w0 h1 h2 h3 => ?_
  have hp : ∀ p ∈ parts, Rep cx false (ρ p.2) (ρc p.2) := fun p hp => h3 _ (by simp only [Op.operands, ho]; exact mem_parts hp)
  have key : ∀ place', (∀ i p, (fun i => places[i]?) i = some p → place' i = some p) → ∃ ov : List Value, Instr.fill place' zc.toArray (parts.map fun (i, x) => (i, ρc x)).toList = some ov.toArray ∧ RepL cx false cs ov := fun place' hpp =>
    fill_rep hpp (RepL.of_v cx false zc) (by simp) (parts_rel parts hp) hf
  have hbuilt : ∃ ov : List Value, P.built t (parts.map fun (i, x) => (i, ρc x)).toList = some ov.toArray ∧ RepL cx false cs ov := by
    unfold bldOf at hb
    unfold Program.built
    split at hb
    · rename_i it n e hi hu
      split at hb
      · rename_i z ie hz hie
        simp only [Option.some.injEq, Prod.mk.injEq] at hb
        obtain ⟨rfl, rfl⟩ := hb
        obtain ⟨ov, e1, e2⟩ := key (fun i => some (i * ie.size, ie.size)) (fun i p hip => by
          simp only [List.getElem?_map, List.getElem?_range] at hip
          rw [Option.map_eq_some_iff] at hip
          obtain ⟨j, hj, rfl⟩ := hip
          have := List.getElem?_eq_some_iff.1 hj
          obtain ⟨hlt, he⟩ := this
          simp at he; subst he; rfl)
        exact ⟨ov, by simp only [hi, hu, hz, hie]; simpa using e1, e2⟩
      · cases hb
    · rename_i it fields hi hu
      split at hb
      · rename_i z pl hz hpl
        simp only [Option.some.injEq, Prod.mk.injEq] at hb
        obtain ⟨rfl, rfl⟩ := hb
        obtain ⟨ov, e1, e2⟩ := key (fun i => pl.toArray[i]?) (fun i p hip => by simpa using hip)
        exact ⟨ov, by simp only [hi, hu, hz, hpl]; simpa using e1, e2⟩
      · cases hb
    · cases hb
  obtain ⟨ov, e1, e2⟩ := hbuilt
  refine ⟨.agg cs, .agg ov.toArray, ?_, rep_agg e2, hK⟩
  simp only [execOp, ho, Sem.run_bind, run_build cx.w t _ _ e1, Result.andThen_ok, Sem.run_pure]

/-! ### Slice literals -/
def afillS (sz : Nat) : List (List AV) → List (Nat × AV) → Option (List (List AV))
  | es, [] => some es
  | es, (i, v) :: rest => match avCells v with | some xs => if xs.length = sz ∧ i < es.length then afillS sz (es.set i xs) rest else none | none => none

theorem afillS_spec {sz : Nat} : ∀ {parts : List (Nat × AV)} {es out : List (List AV)}, (∀ e ∈ es, e.length = sz) → afillS sz es parts = some out →
    afill (fun i => some (i * sz, sz)) es.flatten parts = some out.flatten ∧ out.length = es.length ∧ ∀ e ∈ out, e.length = sz
  | [], es, out, hl, h => by simp [afillS] at h; subst h; exact ⟨rfl, rfl, hl⟩
  | (i, v) :: parts, es, out, hl, h => by
    unfold afillS at h
    split at h
    · rename_i xs hxs
      split at h
      · rename_i hc
        have hil := hc.2
        have he : es[i]? = some es[i] := List.getElem?_eq_getElem hil
        have hel : es[i].length = sz := hl _ (List.getElem_mem hil)
        have hspl : spl es[i] 0 xs = xs := by simp [spl, hc.1, List.drop_of_length_le (by omega : es[i].length ≤ sz)]
        have hfl := spl_flatten es sz i 0 es[i] xs hl he (by omega)
        rw [hspl, Nat.add_zero] at hfl
        have hl' : ∀ e ∈ es.set i xs, e.length = sz := fun e hm => by
          rcases List.mem_or_eq_of_mem_set hm with hm | rfl
          · exact hl _ hm
          · exact hc.1
        obtain ⟨a1, a2, a3⟩ := afillS_spec hl' h
        refine ⟨?_, by simpa using a2, a3⟩
        unfold afill
        have hmul : (i + 1) * sz ≤ es.length * sz := Nat.mul_le_mul_right _ hil
        rw [Nat.succ_mul] at hmul
        simp only [hxs]
        rw [if_pos ⟨hc.1, by rw [flatten_len es sz hl]; exact hmul⟩, ← hfl]
        exact a1
      · cases h
    · cases h

theorem range_zero (zc : List Value) (sz : Nat) (hz : zc.length = sz) (h0 : 0 < sz) : ∀ len, (List.range (len * sz)).map (fun j => zc.toArray[j % zc.toArray.size]!) = (List.replicate len zc).flatten
  | 0 => by simp
  | len + 1 => by
    rw [Nat.succ_mul, List.range_add, List.map_append, range_zero zc sz hz h0 len, List.replicate_succ', List.flatten_append, List.map_map]
    congr 1
    simp only [List.flatten_cons, List.flatten_nil, List.append_nil]
    apply List.ext_getElem?
    intro j
    simp only [List.getElem?_map]
    by_cases hj : j < sz
    · have e1 : (len * sz + j) % sz = j := by rw [Nat.mul_comm, Nat.mul_add_mod]; exact Nat.mod_eq_of_lt hj
      rw [List.getElem?_range hj]
      simp only [Option.map_some, Function.comp, List.size_toArray, hz, e1]
      rw [List.getElem?_eq_getElem (by omega)]
      simp [hz, hj]
    · rw [List.getElem?_eq_none (by simpa using hj), List.getElem?_eq_none (by omega)]; rfl

theorem RepL.replicate {cx : Cx} {z : Bool} {cs : List AV} {vals : List Value} (h : RepL cx z cs vals) : ∀ n, RepL cx z (List.replicate n cs).flatten (List.replicate n vals).flatten
  | 0 => by simpa using RepL.nil cx z
  | n + 1 => by rw [List.replicate_succ, List.replicate_succ, List.flatten_cons, List.flatten_cons]; exact h.append (RepL.replicate h n)

theorem run_buildSlice' {cx : Cx} {ρc : Operand → Value} {t e : TypeId} {sz by_ len : Nat} {zc : List Value} (hs : slbOf P t = some (e, sz, zc, by_)) {parts : Array (Nat × Operand)} (hp : ∀ p ∈ parts, Rep cx false (ρ p.2) (ρc p.2))
    (hsm : len * sz ≤ 2 ^ 24) {es : List (List AV)} (hf : afillS sz (List.replicate len (zc.map .v)) (parts.toList.map fun x => (x.1, ρ x.2)) = some es) :
    ∃ vals : List Value, (Instr.buildSlice t len (parts.map fun (i, x) => (i, ρc x))).run P cx.w = .ok (.slice (some ⟨cx.w.heap.size, 0, none⟩) len len) (cx.w.alloc (.cells vals.toArray e (0, 0))) ∧
      RepL cx false es.flatten vals ∧ es.length = len ∧ (∀ c ∈ es, c.length = sz) := by
  obtain ⟨ie, z, hu, hi, hz, hzs, his, h0, hzc, hby⟩ := slbOf_spec hs
  have hzl : zc.length = sz := by rw [← hzc]; simpa using hzs
  by_cases hlen : 0 < len
  case neg =>
    obtain rfl : len = 0 := by omega
    have hnil : parts = #[] ∧ es = [] := by
      cases hpl : parts.toList with
      | nil => rw [hpl] at hf; simp [afillS] at hf; exact ⟨by rw [← Array.toArray_toList (xs := parts), hpl], hf⟩
      | cons p l => rw [hpl] at hf; simp [afillS] at hf; split at hf <;> cases hf
    obtain ⟨rfl, rfl⟩ := hnil
    refine ⟨[], ?_, RepL.nil _ _, rfl, fun c hc => (by cases hc)⟩
    have hsz : (sizeOf e).run P cx.w = .ok ie.size cx.w := run_sizeOf (by simp [szOf, hi]) _
    have hr0 : Array.range 0 = #[] := by decide
    simp [Instr.buildSlice, run_underlying, hu, hsz, Instr.fill, newRow, newObj, hr0, Array.map_empty]
    rfl
  have hl0 : ∀ c ∈ List.replicate len (zc.map AV.v), c.length = sz := fun c hc => by rw [List.eq_of_mem_replicate hc]; simpa using hzl
  obtain ⟨a1, a2, a3⟩ := afillS_spec hl0 hf
  obtain ⟨ov, e1, e2⟩ := fill_rep (place' := fun i => some (i * sz, sz)) (fun i p h => h) (RepL.replicate (RepL.of_v cx false zc) len) (by simp) (parts_rel parts hp) a1
  refine ⟨ov, ?_, e2, by simpa using a2, a3⟩
  have hstart : (Array.range (len * ie.size)).map (z.cells[· % z.cells.size]!) = ((List.replicate len zc).flatten).toArray := by
    rw [← range_zero zc sz hzl h0 len, his]
    apply Array.ext'
    simp [← hzc]
  refine run_buildSlice cx.w t e len _ ov.toArray ie z hu hi hz (by rw [his]; omega) (by rw [his]; exact Nat.ne_of_gt (Nat.mul_pos hlen h0)) ?_
  rw [hstart, his]
  exact e1

/-- A slice literal that is never written again. -/
theorem sound_buildSlice_fz {t : TypeId} {len : Nat} {parts : Array (Nat × Operand)} (ho : o.op = .buildSlice t len parts)
    (h : bindO (slbOf P t) fun sl => andV (len * sl.2.1 ≤ 2 ^ 24) (bindO (afillS sl.2.1 (List.replicate len (sl.2.2.1.map .v)) (parts.toList.map fun x => (x.1, ρ x.2))) fun es =>
      andV (es.flatten.all AV.frzB = true ∧ es.flatten.all AV.one = true) (K (.vs sl.2.1 es) H))) : OpSem P o ρ H K pan := by
  obtain ⟨⟨e, sz, zc, by_⟩, hs, hsm, es, hf, ⟨hfz, hone⟩, hK⟩ := h
  refine opsem_val fun B w0 cx ρc h1 h2 h3 => ?_
  have hp : ∀ p ∈ parts, Rep cx false (ρ p.2) (ρc p.2) := fun p hp => h3 _ (by simp only [Op.operands, ho]; exact mem_parts hp)
  obtain ⟨vals, hr, hrep, hel, hec⟩ := run_buildSlice' hs hp hsm hf
  have h0 : 0 < sz := let ⟨_, _, _, _, _, _, _, h0, _⟩ := slbOf_spec hs; h0
  refine ⟨cx.frozen (.cells vals.toArray e (0, 0)), .vs sz es, .slice (some ⟨cx.w.heap.size, 0, none⟩) len len, ?_, hrel_frozen h1 _, le_frozen cx _, ?_, h2 ▸ hK⟩
  · simp only [execOp, ho, Sem.run_bind, hr, Result.andThen_ok, Sem.run_pure]; rfl
  · have hs' := (hrep.strong hfz).mono (le_frozen cx (.cells vals.toArray e (0, 0)))
    rw [← hel]
    refine .vs sz es cx.w.heap.size 0 es.length vals (.inr rfl) h0 (Nat.le_refl _) hec hs'.len (hrep.one hone) (fun j x hx => ?_) hs'.rep
    show (cx.w.alloc _).cell? _ = _
    rw [cell_of_row _ _ _ _ _ _ (heap_alloc_new cx.w _)]
    simpa using hx

/-- A slice literal of the call's own. -/
theorem sound_buildSlice_own {t : TypeId} {len : Nat} {parts : Array (Nat × Operand)} (ho : o.op = .buildSlice t len parts)
    (h : bindO (slbOf P t) fun sl => andV (len * sl.2.1 ≤ 2 ^ 24) (bindO (afillS sl.2.1 (List.replicate len (sl.2.2.1.map .v)) (parts.toList.map fun x => (x.1, ρ x.2))) fun es =>
      andV (es.flatten.all AV.one = true) (K (.hs H.length 0 len len) (H ++ [.row sl.1 sl.2.1 es])))) : OpSem P o ρ H K pan := by
  obtain ⟨⟨e, sz, zc, by_⟩, hs, hsm, es, hf, hone, hK⟩ := h
  refine opsem_val fun B w0 cx ρc h1 h2 h3 => ?_
  have hp : ∀ p ∈ parts, Rep cx false (ρ p.2) (ρc p.2) := fun p hp => h3 _ (by simp only [Op.operands, ho]; exact mem_parts hp)
  obtain ⟨vals, hr, hrep, hel, hec⟩ := run_buildSlice' hs hp hsm hf
  have h0 : 0 < sz := let ⟨_, _, _, _, _, _, _, h0, _⟩ := slbOf_spec hs; h0
  have hvl : vals.length = len * sz := by rw [← hrep.len, flatten_len es sz hec, hel]
  have hlm : len ≤ maxLen := by
    simp only at hsm
    have : len * 1 ≤ len * sz := Nat.mul_le_mul_left _ h0
    unfold maxLen; omega
  have hpu := push_row h1 e sz len (es := es) (vals := vals) h0 hec (by omega) hlm hvl (by rw [hel, ← hvl, List.take_length]; exact hrep) (hrep.one hone)
  refine ⟨_, .hs cx.H.length 0 len len, .slice (some ⟨cx.w.heap.size, 0, none⟩) len len, ?_, hpu, le_push _ _ _ _, ?_, ?_⟩
  · simp only [execOp, ho, Sem.run_bind, hr, Result.andThen_ok, Sem.run_pure]; rfl
  · have e1 : (Cx.push cx (.cells vals.toArray e (0, 0)) (.row e sz es) len).κ cx.H.length = cx.w.heap.size := updN_same _ _ _
    have e2 : (Cx.push cx (.cells vals.toArray e (0, 0)) (.row e sz es) len).γ cx.H.length = len := updN_same _ _ _
    refine .hs _ 0 len len _ rfl (.row e sz es) (by simp [Cx.push]) (.inr ⟨e, sz, es, rfl, by omega, fun _ => ⟨by omega, ?_⟩⟩)
    rw [e1, e2]; simp
  · rw [h2]; exact h2 ▸ hK

/-! ### Calls -/
def okFn (P : Program) (g : FuncId) : Bool := match P.funcs[g]? with | some fn => fn.body.isSome && !(fn.name == "runtime.NumGoroutine") | none => false
def callK (K pan : AV → List Blk → Prop) : AE → List Blk → Prop := fun e H' => match e with | .ret r => K r H' | .pan x => pan x H'
def callV (P : Program) (H : List Blk) (fv : AV) (args : List AV) (K pan : AV → List Blk → Prop) : Prop :=
  match fv with
  | .fn (.func g) first cap => andV (okFn P g = true) (ACalls P g (first ++ args ++ cap) H (callK K pan))
  | _ => False

theorem RepL.of_map {cx : Cx} {ρc : Operand → Value} : ∀ (xs : List Operand), (∀ x ∈ xs, Rep cx false (ρ x) (ρc x)) → RepL cx false (xs.map ρ) (xs.map ρc)
  | [], _ => RepL.nil _ _
  | x :: xs, h => (RepL.of_map xs fun y hy => h y (by simp [hy])).cons (h x (by simp))

theorem sound_call {c : Call} {fo : Operand} (ho : o.op = .call c) (hc : c.callee = .value fo) (h : callV P H (ρ fo) (c.args.toList.map ρ) K pan) : OpSem P o ρ H K pan := by
  intro B w0 cx ρc h1 h2 h3
  have hf := h3 fo (by simp [Op.operands, Call.operands, ho, hc])
  have ha : RepL cx false (c.args.toList.map ρ) (c.args.toList.map ρc) := RepL.of_map _ fun x hx => h3 x (by simp [Op.operands, Call.operands, ho]; right; simpa using hx)
  unfold callV at h
  split at h
  · rename_i g first cap e
    obtain ⟨hok, hA⟩ := h
    rw [e] at hf
    generalize hy : ρc fo = y at hf
    cases hf with
    | fn _ _ _ vf vc hnf hrf hnc hrc =>
      have hrun : (execOp ρc o).run P cx.w = .ok (.enter g ((vf ++ c.args.toList.map ρc) ++ vc).toArray) cx.w := by
        unfold okFn at hok
        split at hok
        · rename_i fn hfn
          simp only [Bool.and_eq_true, Bool.not_eq_true', Option.isSome_iff_exists] at hok
          obtain ⟨⟨bd, hbd⟩, hnm⟩ := hok
          have hbn : fn.body.isNone = false := by rw [hbd]; rfl
          simp only [execOp, ho, resolve, hc, hy, Deferred.ofValue, Sem.run_bind, Sem.run_pure, Result.andThen_ok, invoke, callFunc, run_program, hfn, hnm, Bool.false_eq_true, if_false, hbn]
          congr 2
          apply Array.ext'
          simp
        · cases hok
      rw [hrun]
      refine ⟨cx, first ++ c.args.toList.map ρ ++ cap, rfl, h1, Le.refl _, ?_, ?_⟩
      · exact ((RepL.mk hnf hrf).append ha).append (RepL.mk hnc hrc)
      · rw [h2]; exact hA
  · exact h.elim

theorem sound_makeFunc {fn : Fn} {first cap : Array Operand} (ho : o.op = .makeFunc fn first cap) (h : K (.fn fn (first.toList.map ρ) (cap.toList.map ρ)) H) : OpSem P o ρ H K pan := by
  refine opsem_same fun cx ρc B w0 h1 h2 h3 => ?_
  have ha : RepL cx false (first.toList.map ρ) (first.toList.map ρc) := RepL.of_map _ fun x hx => h3 x (by simp [Op.operands, ho]; left; simpa using hx)
  have hb : RepL cx false (cap.toList.map ρ) (cap.toList.map ρc) := RepL.of_map _ fun x hx => h3 x (by simp [Op.operands, ho]; right; simpa using hx)
  refine ⟨_, .func fn (first.map ρc) (cap.map ρc), by simp [execOp, ho, Instr.makeFunc], ?_, h⟩
  have e1 : Array.map ρc first = (List.map ρc first.toList).toArray := by apply Array.ext'; simp
  have e2 : Array.map ρc cap = (List.map ρc cap.toList).toArray := by apply Array.ext'; simp
  rw [e1, e2]
  exact .fn fn _ _ _ _ ha.len ha.rep hb.len hb.rep

theorem sound_panic {x : Operand} (ho : o.op = .panic x) (h : match ρ x with | .ifc _ _ => pan (ρ x) H | _ => False) : OpSem P o ρ H K pan := by
  intro B w0 cx ρc h1 h2 h3
  have hx := h3 x (by simp [Op.operands, ho])
  split at h
  · rename_i t a e
    rw [e] at hx
    generalize hy : ρc x = y at hx
    cases hx with
    | ifc _ _ y' hr =>
      have : (execOp ρc o).run P cx.w = .halt (.panic (.iface t y')) cx.w := by simp [execOp, ho, hy, Instr.panic]
      rw [this]
      exact ⟨cx, .ifc t a, rfl, h1, Le.refl _, .ifc t a y' hr, by rw [h2, ← e]; exact h⟩
  · exact h.elim

end
end Go.Mu
