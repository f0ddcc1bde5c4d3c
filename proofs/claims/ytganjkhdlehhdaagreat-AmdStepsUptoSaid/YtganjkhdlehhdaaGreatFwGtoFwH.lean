/- Operations over abstract values, one by one (4): built values, slices, calls, functions as values. -/
import Derived.Test.YtganjkhdlehhdaaGreatFwF
import Derived.Great.BuildSlice
set_option linter.unusedVariables false
set_option linter.unusedSimpArgs false
namespace Go.Mu
open Go.RowKit (Below)
def afill (place : Nat → Option (Nat × Nat)) : List AV → List (Nat × AV) → Option (List AV)
  | cs, [] => some cs
  | cs, (i, v) :: rest =>
    match place i, avCells v with
    | some (off, sz), some xs => if xs.length = sz ∧ off + sz ≤ cs.length then afill place (spl cs off xs) rest else none
    | _, _ => none
theorem setSeg : ∀ (xs : List Value) (l : List Value) (off n : Nat), off + n + xs.length ≤ l.length →
    ((xs.zipIdx n).foldl (fun cs (c, j) => cs.setIfInBounds (off + j) c) l.toArray) = (spl l (off + n) xs).toArray
  | [], l, off, n, h => by simp [spl]
  | x :: xs, l, off, n, h => by
    simp only [List.length_cons] at h
    simp only [List.zipIdx_cons, List.foldl_cons, List.setIfInBounds_toArray]
    rw [setSeg xs _ off (n + 1) (by simp; omega)]
    congr 1
    have hlt : off + n < l.length := by omega
    simp only [spl, List.length_cons]
    rw [show off + (n + 1) = off + n + 1 by omega]
    rw [List.take_succ_eq_append_getElem (by simpa using hlt), List.getElem_set_self, List.take_set_of_le (Nat.le_refl _), List.drop_set_of_lt (by omega)]
    simp [List.append_assoc, Nat.add_assoc, Nat.add_comm 1]
theorem fill_rep {cx : Cx} {place place' : Nat → Option (Nat × Nat)} (hpp : ∀ i p, place i = some p → place' i = some p) : ∀ {parts : List (Nat × AV)} {vparts : List (Nat × Value)} {cs out : List AV} {vals : List Value}, RepL cx false cs vals → parts.length = vparts.length →
    (∀ (j : Nat) p q, parts[j]? = some p → vparts[j]? = some q → p.1 = q.1 ∧ Rep cx false p.2 q.2) → afill place cs parts = some out → ∃ ov : List Value, Instr.fill place' vals.toArray vparts = some ov.toArray ∧ RepL cx false out ov
  | [], [], cs, out, vals, hr, _, _, h => by simp [afill] at h; subst h; exact ⟨vals, rfl, hr⟩
  | [], _ :: _, _, _, _, _, hl, _, _ => by simp at hl
  | _ :: _, [], _, _, _, _, hl, _, _ => by simp at hl
  | (i, v) :: parts, (i', v') :: vparts, cs, out, vals, hr, hl, hp, h => by
    obtain ⟨h1, h2⟩ := hp 0 _ _ rfl rfl
    simp only at h1 h2
    subst h1
    unfold afill at h
    split at h
    · rename_i off sz xs hpl hxs
      split at h
      · rename_i hc
        obtain ⟨xv, hxv, hrx⟩ := avCells_rep hxs h2
        have hsz : xv.length = sz := by rw [← hrx.len]; exact hc.1
        have hle : off + sz ≤ vals.length := by rw [← hr.len]; exact hc.2
        obtain ⟨ov, e1, e2⟩ := fill_rep hpp (hr.spl off hrx) (by simpa using hl) (fun j p q a b => hp (j + 1) p q (by simpa using a) (by simpa using b)) h
        refine ⟨ov, ?_, e2⟩
        unfold Instr.fill
        rw [hpp _ _ hpl]
        simp only [hxv, List.size_toArray, hsz]
        rw [if_neg (by simp; omega)]
        rw [← e1]
        congr 1
        have := setSeg xv vals off 0 (by omega)
        simpa using this
      · cases h
    · cases h
def bldOf (P : Program) (t : TypeId) : Option (List Value × List (Nat × Nat)) :=
  match P.info? t, P.underlying t with
  | some it, some (.array n e) =>
    match it.zero, P.info? e with
    | some z, some ie => some (z.cells.toList, (List.range n).map fun i => (i * ie.size, ie.size))
    | _, _ => none
  | some it, some (.struct fields) =>
    match it.zero, fields.toList.mapM (fun f => (P.info? f.type).map fun i => (f.offset, i.size)) with
    | some z, some places => some (z.cells.toList, places)
    | _, _ => none
  | _, _ => none
def slbOf (P : Program) (t : TypeId) : Option (TypeId × Nat × List Value × Nat) :=
  match P.underlying t with
  | some (.slice e) => match P.info? e with
    | some ie => match ie.zero with
      | some z => if z.cells.size = ie.size ∧ 0 < ie.size then some (e, ie.size, z.cells.toList, ie.bytes) else none
      | none => none
    | none => none
  | _ => none
theorem slbOf_spec {P : Program} {t e : TypeId} {sz by_ : Nat} {zc : List Value} (h : slbOf P t = some (e, sz, zc, by_)) :
    ∃ ie z, P.underlying t = some (.slice e) ∧ P.info? e = some ie ∧ ie.zero = some z ∧ z.cells.size = sz ∧ ie.size = sz ∧ 0 < sz ∧ z.cells.toList = zc ∧ ie.bytes = by_ := by
  unfold slbOf at h
  split at h
  · rename_i e' hu
    split at h
    · rename_i ie hi
      split at h
      · rename_i z hz
        split at h
        · rename_i hc
          simp only [Option.some.injEq, Prod.mk.injEq] at h
          obtain ⟨rfl, rfl, rfl, rfl⟩ := h
          exact ⟨ie, z, hu, hi, hz, hc.1, rfl, hc.2, rfl, rfl⟩
        · cases h
      · cases h
    · cases h
  · cases h
section
variable {P : Program} {o : Oper} {ρ : Operand → AV} {H : List Blk} {K pan : AV → List Blk → Prop}
theorem parts_rel {cx : Cx} {ρc : Operand → Value} (parts : Array (Nat × Operand)) (h : ∀ p ∈ parts, Rep cx false (ρ p.2) (ρc p.2)) : ∀ (j : Nat) (p : Nat × AV) (q : Nat × Value),
    (parts.toList.map fun (x : Nat × Operand) => (x.1, ρ x.2))[j]? = some p → ((parts.map fun (i, x) => (i, ρc x)).toList)[j]? = some q → p.1 = q.1 ∧ Rep cx false p.2 q.2 := by
  intro j p q hp hq
  simp only [Array.toList_map, List.getElem?_map] at hp hq
  cases hx : parts.toList[j]? with
  | none => rw [hx] at hp; simp at hp
  | some x =>
    rw [hx] at hp hq
    simp at hp hq
    subst hp; subst hq
    exact ⟨rfl, h x (by simpa using List.mem_of_getElem? hx)⟩
theorem mem_parts {parts : Array (Nat × Operand)} {p : Nat × Operand} (h : p ∈ parts) : p.2 ∈ (parts.toList.map (·.2)).toArray := by
  simp; exact ⟨p.1, by simpa using h⟩
theorem sound_build {t : TypeId} {parts : Array (Nat × Operand)} (ho : o.op = .build t parts)
    (h : bindO (bldOf P t) fun zp => bindO (afill (fun i => zp.2[i]?) (zp.1.map .v) (parts.toList.map fun x => (x.1, ρ x.2))) fun cs => K (.agg cs) H) : OpSem P o ρ H K pan := by
  obtain ⟨⟨zc, places⟩, hb, cs, hf, hK⟩ := h
  refine opsem_same fun cx ρc B w0 h1 h2 h3 => ?_
  have hp : ∀ p ∈ parts, Rep cx false (ρ p.2) (ρc p.2) := fun p hp => h3 _ (by simp only [Op.operands, ho]; exact mem_parts hp)
  have key : ∀ place', (∀ i p, (fun i => places[i]?) i = some p → place' i = some p) → ∃ ov : List Value, Instr.fill place' zc.toArray (parts.map fun (i, x) => (i, ρc x)).toList = some ov.toArray ∧ RepL cx false cs ov := fun place' hpp =>
    fill_rep hpp (RepL.of_v cx false zc) (by simp) (parts_rel parts hp) hf
  have hbuilt : ∃ ov : List Value, P.built t (parts.map fun (i, x) => (i, ρc x)).toList = some ov.toArray ∧ RepL cx false cs ov := by
    unfold bldOf at hb
    unfold Program.built
    split at hb
    · rename_i it n e hi hu
      split at hb
      · rename_i z ie hz hie
        simp only [Option.some.injEq, Prod.mk.injEq] at hb
        obtain ⟨rfl, rfl⟩ := hb
        obtain ⟨ov, e1, e2⟩ := key (fun i => some (i * ie.size, ie.size)) (fun i p hip => by
          simp only [List.getElem?_map, List.getElem?_range] at hip
          rw [Option.map_eq_some_iff] at hip
          obtain ⟨j, hj, rfl⟩ := hip
          have := List.getElem?_eq_some_iff.1 hj
          obtain ⟨hlt, he⟩ := this
          simp at he; subst he; rfl)
        exact ⟨ov, by simp only [hi, hu, hz, hie]; simpa using e1, e2⟩
      · cases hb
    · rename_i it fields hi hu
      split at hb
      · rename_i z pl hz hpl
        simp only [Option.some.injEq, Prod.mk.injEq] at hb
        obtain ⟨rfl, rfl⟩ := hb
        obtain ⟨ov, e1, e2⟩ := key (fun i => pl.toArray[i]?) (fun i p hip => by simpa using hip)
        exact ⟨ov, by simp only [hi, hu, hz, hpl]; simpa using e1, e2⟩
      · cases hb
    · cases hb
  obtain ⟨ov, e1, e2⟩ := hbuilt
  refine ⟨.agg cs, .agg ov.toArray, ?_, rep_agg e2, hK⟩
  simp only [execOp, ho, Sem.run_bind, run_build cx.w t _ _ e1, Result.andThen_ok, Sem.run_pure]
def afillS (sz : Nat) : List (List AV) → List (Nat × AV) → Option (List (List AV))
  | es, [] => some es
  | es, (i, v) :: rest => match avCells v with | some xs => if xs.length = sz ∧ i < es.length then afillS sz (es.set i xs) rest else none | none => none
theorem afillS_spec {sz : Nat} : ∀ {parts : List (Nat × AV)} {es out : List (List AV)}, (∀ e ∈ es, e.length = sz) → afillS sz es parts = some out →
    afill (fun i => some (i * sz, sz)) es.flatten parts = some out.flatten ∧ out.length = es.length ∧ ∀ e ∈ out, e.length = sz
  | [], es, out, hl, h => by simp [afillS] at h; subst h; exact ⟨rfl, rfl, hl⟩
  | (i, v) :: parts, es, out, hl, h => by
    unfold afillS at h
    split at h
    · rename_i xs hxs
      split at h
      · rename_i hc
        have hil := hc.2
        have he : es[i]? = some es[i] := List.getElem?_eq_getElem hil
        have hel : es[i].length = sz := hl _ (List.getElem_mem hil)
        have hspl : spl es[i] 0 xs = xs := by simp [spl, hc.1, List.drop_of_length_le (by omega : es[i].length ≤ sz)]
        have hfl := spl_flatten es sz i 0 es[i] xs hl he (by omega)
        rw [hspl, Nat.add_zero] at hfl
        have hl' : ∀ e ∈ es.set i xs, e.length = sz := fun e hm => by
          rcases List.mem_or_eq_of_mem_set hm with hm | rfl
          · exact hl _ hm
          · exact hc.1
        obtain ⟨a1, a2, a3⟩ := afillS_spec hl' h
        refine ⟨?_, by simpa using a2, a3⟩
        unfold afill
        have hmul : (i + 1) * sz ≤ es.length * sz := Nat.mul_le_mul_right _ hil
        rw [Nat.succ_mul] at hmul
        simp only [hxs]
        rw [if_pos ⟨hc.1, by rw [flatten_len es sz hl]; exact hmul⟩, ← hfl]
        exact a1
      · cases h
    · cases h
theorem range_zero (zc : List Value) (sz : Nat) (hz : zc.length = sz) (h0 : 0 < sz) : ∀ len, (List.range (len * sz)).map (fun j => zc.toArray[j % zc.toArray.size]!) = (List.replicate len zc).flatten
  | 0 => by simp
  | len + 1 => by
    rw [Nat.succ_mul, List.range_add, List.map_append, range_zero zc sz hz h0 len, List.replicate_succ', List.flatten_append, List.map_map]
    congr 1
    simp only [List.flatten_cons, List.flatten_nil, List.append_nil]
    apply List.ext_getElem?
    intro j
    simp only [List.getElem?_map]
    by_cases hj : j < sz
    · have e1 : (len * sz + j) % sz = j := by rw [Nat.mul_comm, Nat.mul_add_mod]; exact Nat.mod_eq_of_lt hj
      rw [List.getElem?_range hj]
      simp only [Option.map_some, Function.comp, List.size_toArray, hz, e1]
      rw [List.getElem?_eq_getElem (by omega)]
      simp [hz, hj]
    · rw [List.getElem?_eq_none (by simpa using hj), List.getElem?_eq_none (by omega)]; rfl
theorem RepL.replicate {cx : Cx} {z : Bool} {cs : List AV} {vals : List Value} (h : RepL cx z cs vals) : ∀ n, RepL cx z (List.replicate n cs).flatten (List.replicate n vals).flatten
  | 0 => by simpa using RepL.nil cx z
  | n + 1 => by rw [List.replicate_succ, List.replicate_succ, List.flatten_cons, List.flatten_cons]; exact h.append (RepL.replicate h n)
theorem run_buildSlice' {cx : Cx} {ρc : Operand → Value} {t e : TypeId} {sz by_ len : Nat} {zc : List Value} (hs : slbOf P t = some (e, sz, zc, by_)) {parts : Array (Nat × Operand)} (hp : ∀ p ∈ parts, Rep cx false (ρ p.2) (ρc p.2))
    (hsm : len * sz ≤ 2 ^ 24) {es : List (List AV)} (hf : afillS sz (List.replicate len (zc.map .v)) (parts.toList.map fun x => (x.1, ρ x.2)) = some es) :
    ∃ vals : List Value, (Instr.buildSlice t len (parts.map fun (i, x) => (i, ρc x))).run P cx.w = .ok (.slice (some ⟨cx.w.heap.size, 0, none⟩) len len) (cx.w.alloc (.cells vals.toArray e (0, 0))) ∧
      RepL cx false es.flatten vals ∧ es.length = len ∧ (∀ c ∈ es, c.length = sz) := by
  obtain ⟨ie, z, hu, hi, hz, hzs, his, h0, hzc, hby⟩ := slbOf_spec hs
  have hzl : zc.length = sz := by rw [← hzc]; simpa using hzs
  by_cases hlen : 0 < len
  case neg =>
    obtain rfl : len = 0 := by omega
    have hnil : parts = #[] ∧ es = [] := by
      cases hpl : parts.toList with
      | nil => rw [hpl] at hf; simp [afillS] at hf; exact ⟨by rw [← Array.toArray_toList (xs := parts), hpl], hf⟩
      | cons p l => rw [hpl] at hf; simp [afillS] at hf; split at hf <;> cases hf
    obtain ⟨rfl, rfl⟩ := hnil
    refine ⟨[], ?_, RepL.nil _ _, rfl, fun c hc => (by cases hc)⟩
    have hsz : (sizeOf e).run P cx.w = .ok ie.size cx.w := run_sizeOf (by simp [szOf, hi]) _
    have hr0 : Array.range 0 = #[] := by decide
    simp [Instr.buildSlice, run_underlying, hu, hsz, Instr.fill, newRow, newObj, hr0, Array.map_empty]
    rfl
  have hl0 : ∀ c ∈ List.replicate len (zc.map AV.v), c.length = sz := fun c hc => by rw [List.eq_of_mem_replicate hc]; simpa using hzl
  obtain ⟨a1, a2, a3⟩ := afillS_spec hl0 hf
  obtain ⟨ov, e1, e2⟩ := fill_rep (place' := fun i => some (i * sz, sz)) (fun i p h => h) (RepL.replicate (RepL.of_v cx false zc) len) (by simp) (parts_rel parts hp) a1
  refine ⟨ov, ?_, e2, by simpa using a2, a3⟩
  have hstart : (Array.range (len * ie.size)).map (z.cells[· % z.cells.size]!) = ((List.replicate len zc).flatten).toArray := by
    rw [← range_zero zc sz hzl h0 len, his]
    apply Array.ext'
    simp [← hzc]
  refine run_buildSlice cx.w t e len _ ov.toArray ie z hu hi hz (by rw [his]; omega) (by rw [his]; exact Nat.ne_of_gt (Nat.mul_pos hlen h0)) ?_
  rw [hstart, his]
  exact e1
theorem sound_buildSlice_fz {t : TypeId} {len : Nat} {parts : Array (Nat × Operand)} (ho : o.op = .buildSlice t len parts)
    (h : bindO (slbOf P t) fun sl => andV (len * sl.2.1 ≤ 2 ^ 24) (bindO (afillS sl.2.1 (List.replicate len (sl.2.2.1.map .v)) (parts.toList.map fun x => (x.1, ρ x.2))) fun es =>
      andV (es.flatten.all AV.frzB = true ∧ es.flatten.all AV.one = true) (K (.vs sl.2.1 es) H))) : OpSem P o ρ H K pan := by
  obtain ⟨⟨e, sz, zc, by_⟩, hs, hsm, es, hf, ⟨hfz, hone⟩, hK⟩ := h
  refine opsem_val fun B w0 cx ρc h1 h2 h3 => ?_
  have hp : ∀ p ∈ parts, Rep cx false (ρ p.2) (ρc p.2) := fun p hp => h3 _ (by simp only [Op.operands, ho]; exact mem_parts hp)
  obtain ⟨vals, hr, hrep, hel, hec⟩ := run_buildSlice' hs hp hsm hf
  have h0 : 0 < sz := let ⟨_, _, _, _, _, _, _, h0, _⟩ := slbOf_spec hs; h0
  refine ⟨cx.frozen (.cells vals.toArray e (0, 0)), .vs sz es, .slice (some ⟨cx.w.heap.size, 0, none⟩) len len, ?_, hrel_frozen h1 _, le_frozen cx _, ?_, h2 ▸ hK⟩
  · simp only [execOp, ho, Sem.run_bind, hr, Result.andThen_ok, Sem.run_pure]; rfl
  · have hs' := (hrep.strong hfz).mono (le_frozen cx (.cells vals.toArray e (0, 0)))
    rw [← hel]
    refine .vs sz es cx.w.heap.size 0 es.length vals (.inr rfl) h0 (Nat.le_refl _) hec hs'.len (hrep.one hone) (fun j x hx => ?_) hs'.rep
    show (cx.w.alloc _).cell? _ = _
    rw [cell_of_row _ _ _ _ _ _ (heap_alloc_new cx.w _)]
    simpa using hx
theorem sound_buildSlice_fx {t : TypeId} {len : Nat} {parts : Array (Nat × Operand)} (ho : o.op = .buildSlice t len parts)
    (h : bindO (slbOf P t) fun sl => andV (len * sl.2.1 ≤ 2 ^ 24) (bindO (afillS sl.2.1 (List.replicate len (sl.2.2.1.map .v)) (parts.toList.map fun x => (x.1, ρ x.2))) fun es =>
      andV (es.flatten.all AV.frzB = true ∧ es.flatten.all AV.one = true) (K (.vx sl.2.1 es) H))) : OpSem P o ρ H K pan := by
  obtain ⟨⟨e, sz, zc, by_⟩, hs, hsm, es, hf, ⟨hfz, hone⟩, hK⟩ := h
  refine opsem_val fun B w0 cx ρc h1 h2 h3 => ?_
  have hp : ∀ p ∈ parts, Rep cx false (ρ p.2) (ρc p.2) := fun p hp => h3 _ (by simp only [Op.operands, ho]; exact mem_parts hp)
  obtain ⟨vals, hr, hrep, hel, hec⟩ := run_buildSlice' hs hp hsm hf
  have h0 : 0 < sz := let ⟨_, _, _, _, _, _, _, h0, _⟩ := slbOf_spec hs; h0
  refine ⟨cx.frozen (.cells vals.toArray e (0, 0)), .vx sz es, .slice (some ⟨cx.w.heap.size, 0, none⟩) len len, ?_, hrel_frozen h1 _, le_frozen cx _, ?_, h2 ▸ hK⟩
  · simp only [execOp, ho, Sem.run_bind, hr, Result.andThen_ok, Sem.run_pure]; rfl
  · have hs' := (hrep.strong hfz).mono (le_frozen cx (.cells vals.toArray e (0, 0)))
    rw [← hel]
    refine .vx sz es cx.w.heap.size 0 vals (.inr rfl) h0 hec hs'.len (hrep.one hone) (fun j x hx => ?_) hs'.rep
    show (cx.w.alloc _).cell? _ = _
    rw [cell_of_row _ _ _ _ _ _ (heap_alloc_new cx.w _)]
    simpa using hx
theorem sound_buildSlice_own {t : TypeId} {len : Nat} {parts : Array (Nat × Operand)} (ho : o.op = .buildSlice t len parts)
    (h : bindO (slbOf P t) fun sl => andV (len * sl.2.1 ≤ 2 ^ 24) (bindO (afillS sl.2.1 (List.replicate len (sl.2.2.1.map .v)) (parts.toList.map fun x => (x.1, ρ x.2))) fun es =>
      andV (es.flatten.all AV.one = true) (K (.hs H.length 0 len len) (H ++ [.row sl.1 sl.2.1 es])))) : OpSem P o ρ H K pan := by
  obtain ⟨⟨e, sz, zc, by_⟩, hs, hsm, es, hf, hone, hK⟩ := h
  refine opsem_val fun B w0 cx ρc h1 h2 h3 => ?_
  have hp : ∀ p ∈ parts, Rep cx false (ρ p.2) (ρc p.2) := fun p hp => h3 _ (by simp only [Op.operands, ho]; exact mem_parts hp)
  obtain ⟨vals, hr, hrep, hel, hec⟩ := run_buildSlice' hs hp hsm hf
  have h0 : 0 < sz := let ⟨_, _, _, _, _, _, _, h0, _⟩ := slbOf_spec hs; h0
  have hvl : vals.length = len * sz := by rw [← hrep.len, flatten_len es sz hec, hel]
  have hlm : len ≤ maxLen := by
    simp only at hsm
    have : len * 1 ≤ len * sz := Nat.mul_le_mul_left _ h0
    unfold maxLen; omega
  have hpu := push_row h1 e sz len (es := es) (vals := vals) h0 hec (by omega) hlm hvl (by rw [hel, ← hvl, List.take_length]; exact hrep) (hrep.one hone)
  refine ⟨_, .hs cx.H.length 0 len len, .slice (some ⟨cx.w.heap.size, 0, none⟩) len len, ?_, hpu, le_push _ _ _ _, ?_, ?_⟩
  · simp only [execOp, ho, Sem.run_bind, hr, Result.andThen_ok, Sem.run_pure]; rfl
  · have e1 : (Cx.push cx (.cells vals.toArray e (0, 0)) (.row e sz es) len).κ cx.H.length = cx.w.heap.size := updN_same _ _ _
    have e2 : (Cx.push cx (.cells vals.toArray e (0, 0)) (.row e sz es) len).γ cx.H.length = len := updN_same _ _ _
    refine .hs _ 0 len len _ rfl (.row e sz es) (by simp [Cx.push]) (.inr ⟨e, sz, es, rfl, by omega, fun _ => ⟨by omega, ?_⟩⟩)
    rw [e1, e2]; simp
  · rw [h2]; exact h2 ▸ hK
def okFn (P : Program) (g : FuncId) : Bool := match P.funcs[g]? with | some fn => fn.body.isSome && !(fn.name == "runtime.NumGoroutine") | none => false
def callK (K pan : AV → List Blk → Prop) : AE → List Blk → Prop := fun e H' => match e with | .ret r => K r H' | .pan x => pan x H'
def callV (P : Program) (H : List Blk) (fv : AV) (args : List AV) (K pan : AV → List Blk → Prop) : Prop :=
  match fv with
  | .fn (.func g) first cap => andV (okFn P g = true) (ACalls P g (first ++ args ++ cap) H (callK K pan))
  | .yl k => AYield P k H args (callK K pan)
  | _ => False
theorem RepL.of_map {cx : Cx} {ρc : Operand → Value} : ∀ (xs : List Operand), (∀ x ∈ xs, Rep cx false (ρ x) (ρc x)) → RepL cx false (xs.map ρ) (xs.map ρc)
  | [], _ => RepL.nil _ _
  | x :: xs, h => (RepL.of_map xs fun y hy => h y (by simp [hy])).cons (h x (by simp))
theorem sound_call {c : Call} {fo : Operand} (ho : o.op = .call c) (hc : c.callee = .value fo) (h : callV P H (ρ fo) (c.args.toList.map ρ) K pan) : OpSem P o ρ H K pan := by
  intro B w0 cx ρc h1 h2 h3
  have hf := h3 fo (by simp [Op.operands, Call.operands, ho, hc])
  have ha : RepL cx false (c.args.toList.map ρ) (c.args.toList.map ρc) := RepL.of_map _ fun x hx => h3 x (by simp [Op.operands, Call.operands, ho]; right; simpa using hx)
  unfold callV at h
  split at h
  · rename_i g first cap e
    obtain ⟨hok, hA⟩ := h
    rw [e] at hf
    generalize hy : ρc fo = y at hf
    cases hf with
    | fn _ _ _ vf vc hnf hrf hnc hrc =>
      have hrun : (execOp ρc o).run P cx.w = .ok (.enter g ((vf ++ c.args.toList.map ρc) ++ vc).toArray) cx.w := by
        unfold okFn at hok
        split at hok
        · rename_i fn hfn
          simp only [Bool.and_eq_true, Bool.not_eq_true', Option.isSome_iff_exists] at hok
          obtain ⟨⟨bd, hbd⟩, hnm⟩ := hok
          have hbn : fn.body.isNone = false := by rw [hbd]; rfl
          simp only [execOp, ho, resolve, hc, hy, Deferred.ofValue, Sem.run_bind, Sem.run_pure, Result.andThen_ok, invoke, callFunc, run_program, hfn, hnm, Bool.false_eq_true, if_false, hbn]
          congr 2
          apply Array.ext'
          simp
        · cases hok
      rw [hrun]
      refine ⟨cx, first ++ c.args.toList.map ρ ++ cap, rfl, h1, Le.refl _, ?_, ?_⟩
      · exact ((RepL.mk hnf hrf).append ha).append (RepL.mk hnc hrc)
      · rw [h2]; exact hA
  · rename_i k e
    rw [e] at hf
    generalize hy : ρc fo = y at hf
    cases hf with
    | yl _ bl hk hfix =>
      obtain ⟨fid, tmps, assign, body, hr, hR⟩ := h B w0 cx _ h1 h2 ha
      have hrun : (execOp ρc o).run P cx.w = .ok (.round (cx.κ k) fid tmps assign body) cx.w := by
        have e1 : (List.map ρc c.args.toList).toArray = #[] ++ c.args.map ρc := by apply Array.ext'; simp
        rw [e1] at hr
        simpa only [execOp, ho, resolve, hc, hy, Deferred.ofValue, Sem.run_bind, Sem.run_pure, Result.andThen_ok, invoke, Array.append_empty] using hr
      rw [hrun]
      exact ⟨cx, rfl, h1, Le.refl _, hR⟩
  · exact h.elim
theorem sound_makeFunc {fn : Fn} {first cap : Array Operand} (ho : o.op = .makeFunc fn first cap) (h : K (.fn fn (first.toList.map ρ) (cap.toList.map ρ)) H) : OpSem P o ρ H K pan := by
  refine opsem_same fun cx ρc B w0 h1 h2 h3 => ?_
  have ha : RepL cx false (first.toList.map ρ) (first.toList.map ρc) := RepL.of_map _ fun x hx => h3 x (by simp [Op.operands, ho]; left; simpa using hx)
  have hb : RepL cx false (cap.toList.map ρ) (cap.toList.map ρc) := RepL.of_map _ fun x hx => h3 x (by simp [Op.operands, ho]; right; simpa using hx)
  refine ⟨_, .func fn (first.map ρc) (cap.map ρc), by simp [execOp, ho, Instr.makeFunc], ?_, h⟩
  have e1 : Array.map ρc first = (List.map ρc first.toList).toArray := by apply Array.ext'; simp
  have e2 : Array.map ρc cap = (List.map ρc cap.toList).toArray := by apply Array.ext'; simp
  rw [e1, e2]
  exact .fn fn _ _ _ _ ha.len ha.rep hb.len hb.rep
theorem sound_panic {x : Operand} (ho : o.op = .panic x) (h : match ρ x with | .ifc _ _ => pan (ρ x) H | _ => False) : OpSem P o ρ H K pan := by
  intro B w0 cx ρc h1 h2 h3
  have hx := h3 x (by simp [Op.operands, ho])
  split at h
  · rename_i t a e
    rw [e] at hx
    generalize hy : ρc x = y at hx
    cases hx with
    | ifc _ _ y' hr =>
      have : (execOp ρc o).run P cx.w = .halt (.panic (.iface t y')) cx.w := by simp [execOp, ho, hy, Instr.panic]
      rw [this]
      exact ⟨cx, .ifc t a, rfl, h1, Le.refl _, .ifc t a y' hr, by rw [h2, ← e]; exact h⟩
  · exact h.elim
end
end Go.Mu
namespace Go.Mu
open Go.RowKit (Below)
def srcEs (H : List Blk) (sz : Nat) (x : AV) : Option (List (List AV)) :=
  match x with
  | .vs sz' es => if sz' = sz then some es else none
  | .v (.slice none 0 0) => some []
  | .hs k off n ver => match H[k]? with | some (.row _ z es) => if z = sz ∧ es.length = ver then some ((es.drop off).take n) else none | _ => none
  | .bs k off n => match H[k]? with | some (.box _ cs) => if sz = 1 ∧ off + n ≤ cs.length ∧ cs.all AV.one = true then some (((cs.drop off).take n).map fun c => [c]) else none | _ => none
  | _ => none
theorem flatten_drop {α : Type} : ∀ (es : List (List α)) (sz n : Nat), (∀ e ∈ es, e.length = sz) → (es.drop n).flatten = es.flatten.drop (n * sz)
  | [], sz, n, _ => by simp
  | d :: ds, sz, 0, _ => by simp
  | d :: ds, sz, n + 1, hl => by
    have hd : d.length = sz := hl d (by simp)
    rw [List.drop_succ_cons, List.flatten_cons, flatten_drop ds sz n (fun e he => hl e (by simp [he])), Nat.succ_mul, Nat.add_comm, ← hd, List.drop_length_add_append]
theorem flatten_take {α : Type} : ∀ (es : List (List α)) (sz n : Nat), (∀ e ∈ es, e.length = sz) → (es.take n).flatten = es.flatten.take (n * sz)
  | [], sz, n, _ => by simp
  | d :: ds, sz, 0, _ => by simp
  | d :: ds, sz, n + 1, hl => by
    have hd : d.length = sz := hl d (by simp)
    rw [List.take_succ_cons, List.flatten_cons, List.flatten_cons, flatten_take ds sz n (fun e he => hl e (by simp [he])), Nat.succ_mul, Nat.add_comm, ← hd, List.take_length_add_append]
theorem flatten_one {α : Type} : ∀ l : List α, (l.map fun c => [c]).flatten = l
  | [] => rfl
  | c :: l => by rw [List.map_cons, List.flatten_cons, flatten_one l]; rfl
theorem src_rep {B : Nat} {w0 : World} {cx : Cx} (h : HRel B w0 cx) {sz : Nat} {x : AV} {ys : List (List AV)} {y : Value} (hs : srcEs cx.H sz x = some ys) (hr : Rep cx false x y) :
    ∃ a c, y = .slice a ys.length c ∧ ys.length ≤ c ∧ (ys = [] ∨ ∃ (b o : Nat) (vals : List Value), a = some ⟨b, o, none⟩ ∧ RepL cx false ys.flatten vals ∧ (∀ (j : Nat) v, vals[j]? = some v → cx.w.cell? ⟨b, o + j, none⟩ = some v) ∧
      (∀ v ∈ vals, v.oneCell' = true) ∧ (∀ e ∈ ys, e.length = sz) ∧ 0 < sz ∧ ((∃ s es, x = .vs s es) → RepL cx true ys.flatten vals)) := by
  unfold srcEs at hs
  split at hs
  · rename_i sz' es
    split at hs
    · rename_i he
      subst he; cases hs
      cases hr with
      | vs0 sz a cap => exact ⟨a, cap, rfl, Nat.zero_le _, .inl rfl⟩
      | vs sz es b o cap vals hf hz hcap hl hn ho hc hr => exact ⟨_, cap, rfl, hcap, .inr ⟨b, o, vals, rfl, (RepL.mk hn hr).weak, hc, ho, hl, hz, fun _ => ⟨hn, hr⟩⟩⟩
    · cases hs
  · cases hs; have := hr.v_inv; exact ⟨none, 0, this, Nat.zero_le _, .inl rfl⟩
  · rename_i k off n ver
    split at hs
    · rename_i t z es hk
      split at hs
      · rename_i hc
        obtain ⟨rfl, hv⟩ := hc
        cases hs
        cases hr with
        | hs _ _ _ _ _ hone bl hk' hp =>
          rw [hk] at hk'; cases hk'
          rcases hp with hf | ⟨t', sz', es', heq, hle, hyy⟩
          · simp [Blk.fixed] at hf
          · cases heq
            obtain ⟨hoff, hy⟩ := hyy hv
            obtain ⟨b1, b2, b3, b4, b5, b6, cur, b7, b8, b9, b10⟩ := h.blk k _ hk
            have hlen : ((es.drop off).take n).length = n := by simp; omega
            have hl2 : ∀ e ∈ (es.drop off).take n, e.length = z := fun e he => b4 e (List.mem_of_mem_drop (List.mem_of_mem_take he))
            refine ⟨_, _, by rw [hlen]; exact hy, by rw [hlen]; omega, .inr ⟨cx.κ k, off * z, ((cur.take (es.length * z)).drop (off * z)).take (n * z), rfl, ?_, fun j v hj => ?_, fun v hv' => ?_, hl2, b3, fun ⟨s, es, he⟩ => by cases he⟩⟩
            · rw [flatten_take _ z _ (fun e he => b4 e (List.mem_of_mem_drop he)), flatten_drop _ z _ b4]
              exact (b9.drop _).take _
            · rw [List.getElem?_take] at hj
              split at hj
              · rw [List.getElem?_drop, List.getElem?_take] at hj
                split at hj
                · rw [cell_of_row _ _ _ _ _ _ b7]; simpa using hj
                · cases hj
              · cases hj
            · exact b10 v (List.mem_of_mem_take (List.mem_of_mem_drop (List.mem_of_mem_take hv')))
      · cases hs
    · cases hs
  · rename_i k off n
    split at hs
    · rename_i t cs hk
      split at hs
      · rename_i hc
        obtain ⟨rfl, hn, hone⟩ := hc
        cases hs
        cases hr with
        | bs _ _ _ cap bl hk' hf hcap =>
          obtain ⟨b1, b2, vals, b3, b4⟩ := h.blk k _ hk
          have hlen : (((cs.drop off).take n).map fun c => [c]).length = n := by simp; omega
          have hfl : (((cs.drop off).take n).map fun c => [c]).flatten = (cs.drop off).take n := flatten_one _
          have hsub := (b4.drop off).take n
          refine ⟨_, _, by rw [hlen], by rw [hlen]; exact hcap, .inr ⟨cx.κ k, off, (vals.drop off).take n, rfl, by rw [hfl]; exact hsub, fun j v hj => ?_, fun v hv => ?_, fun e he => ?_, by omega, fun ⟨s, es, he⟩ => by cases he⟩⟩
          · rw [List.getElem?_take] at hj
            split at hj
            · rw [List.getElem?_drop] at hj
              rw [cell_of_row _ _ _ _ _ _ b3]; simpa using hj
            · cases hj
          · exact b4.one hone v (List.mem_of_mem_drop (List.mem_of_mem_take hv))
          · obtain ⟨c, _, rfl⟩ := List.mem_map.1 he; rfl
      · cases hs
    · cases hs
  · cases hs
theorem mem_app {α : Type} {p : α → Prop} {l l' : List α} (h : ∀ x ∈ l, p x) (k : ∀ x ∈ l', p x) : ∀ x ∈ l ++ l', p x := fun x hx => by
  rcases List.mem_append.1 hx with hx | hx
  · exact h x hx
  · exact k x hx
section
variable {P : Program} {o : Oper} {ρ : Operand → AV} {H : List Blk} {K pan : AV → List Blk → Prop}
theorem exec_append {s x : Operand} {t : TypeId} (ho : o.op = .call { callee := .builtin .append, args := #[s, x], argTypes := #[t, t] }) (ρc : Operand → Value) (w : World) :
    (execOp ρc o).run P w = ((Builtin.append_ #[t, t] o.type #[ρc s, ρc x]).run P w).andThen fun v w => .ok (.value v) w := by
  simp [execOp, ho, resolve, invoke, builtin]
theorem run_append_none {t e : TypeId} {sz by_ : Nat} {zc : List Value} (hs : slbOf P t = some (e, sz, zc, by_)) (ty : TypeId) (a a' : Option Addr) (n c c' : Nat) (hn : n ≤ c) (w : World) (hsp : ∀ b, a = some b → b.spot = none) :
    (Builtin.append_ #[t, t] ty #[.slice a n c, .slice a' 0 c']).run P w = .ok (.slice a n c) w := by
  obtain ⟨ie, z, hu, hi, hz, hzs, his, h0, hzc, hby⟩ := slbOf_spec hs
  have hf : (Builtin.firstCells ie.size 0 (.slice a' 0 c')).run P w = .ok #[] w := by
    cases a' <;> simp [Builtin.firstCells, loadCells, loadCellsFrom]
  simp only [Builtin.append_, run_underlying hu, sizeOf, typeInfo, run_program, hi, Sem.run_bind, Sem.run_pure, Result.andThen_ok, Builtin.lenOf, List.getElem?_toArray, List.getElem?_cons_zero, List.getElem?_cons_succ]
  cases a <;> simp [hn, hf, storeCells, loadCells, loadCellsFrom, hi, run_underlying hu]
def zeroCellsL (z : Value) (n : Nat) : List Value := (Builtin.zeroCells z.cells n).toList
theorem zeroCellsL_len {z : Value} {sz : Nat} (hz : z.cells.size = sz) (n : Nat) : (zeroCellsL z n).length = n * sz := by
  simp [zeroCellsL, size_zeroCells, hz]
theorem zeroCells_one {z : Value} (hz : ∀ x ∈ z.cells, x.oneCell' = true) (h0 : 0 < z.cells.size) (n : Nat) : ∀ x ∈ zeroCellsL z n, x.oneCell' = true := by
  intro x hx
  simp only [zeroCellsL, Builtin.zeroCells, Array.toList_map, List.mem_map] at hx
  obtain ⟨j, _, rfl⟩ := hx
  rw [getElem!_pos z.cells (j % z.cells.size) (Nat.mod_lt _ h0)]
  exact hz _ (Array.getElem_mem _)
def appendV (H : List Blk) (sl : TypeId × Nat × List Value × Nat) (s : AV) (ys : List (List AV)) (K : AV → List Blk → Prop) : Prop :=
  match s with
  | .v (.slice none 0 0) => (ys = [] → K (.v (.slice none 0 0)) H) ∧ (ys ≠ [] → ys.length * sl.2.2.2 ≤ 140737488355328 ∧ ys.length ≤ 9223372036854775807 ∧ (K (.hs H.length 0 ys.length ys.length) (H ++ [.row sl.1 sl.2.1 ys]) ∨ ∃ k, H[k]? = some .pend ∧ K (.hs k 0 ys.length ys.length) (H.set k (.row sl.1 sl.2.1 ys))))
  | .hs k 0 n ver => match H[k]? with
    | some (.row t z es) => andV (t = sl.1 ∧ z = sl.2.1 ∧ es.length = ver)
        (((n = ver ∧ (n + ys.length) * sl.2.2.2 ≤ 140737488355328 ∧ n + ys.length ≤ 9223372036854775807) ∧ K (.hs k 0 (n + ys.length) (ver + ys.length)) (H.set k (.row t z (es ++ ys)))) ∨
         (n + ys.length ≤ ver ∧ K (.hs k 0 (n + ys.length) ver) (H.set k (.row t z (es.take n ++ ys ++ es.drop (n + ys.length))))) ∨
         ((n ≤ ver ∧ ver < n + ys.length ∧ (n + ys.length) * sl.2.2.2 ≤ 140737488355328 ∧ n + ys.length ≤ 9223372036854775807) ∧ K (.hs k 0 (n + ys.length) (n + ys.length)) (H.set k (.row t z (es.take n ++ ys)))))
    | _ => False
  | _ => False
theorem sound_append {s x : Operand} {t : TypeId} (ho : o.op = .call { callee := .builtin .append, args := #[s, x], argTypes := #[t, t] })
    (h : bindO (slbOf P t) fun sl => andV (sl.2.2.1.all Value.oneCell' = true) (bindO (srcEs H sl.2.1 (ρ x)) fun ys => appendV H sl (ρ s) ys K)) : OpSem P o ρ H K pan := by
  obtain ⟨⟨e, sz, zc, by_⟩, hs, hz1, ys, hys, h⟩ := h
  obtain ⟨ie, z, hu, hi, hz, hzs, his, h0, hzc, hby⟩ := slbOf_spec hs
  have hzone : ∀ x ∈ z.cells, x.oneCell' = true := fun x hx => List.all_eq_true.1 hz1 x (by rw [← hzc]; simpa using hx)
  refine opsem_val fun B w0 cx ρc h1 h2 h3 => ?_
  have hsr := h3 s (by simp [Op.operands, Call.operands, ho])
  have hxr := h3 x (by simp [Op.operands, Call.operands, ho])
  rw [exec_append ho]
  obtain ⟨ax, cxp, hyx, hlc, hsrc⟩ := src_rep h1 (h2 ▸ hys) hxr
  rw [hyx]
  simp only at hys
  unfold appendV at h
  split at h
  · rename_i es'
    rw [es'] at hsr
    have ey := hsr.v_inv
    rw [ey]
    by_cases hnil : ys = []
    · subst hnil
      refine ⟨cx, .v (.slice none 0 0), .slice none 0 0, ?_, h1, Le.refl _, .v _, h2 ▸ h.1 rfl⟩
      simp only [List.length_nil, run_append_none hs o.type none ax 0 0 cxp (Nat.le_refl _) cx.w (fun b hb => by cases hb), Result.andThen_ok]
    · obtain ⟨hb, h63, hK⟩ := h.2 hnil
      rcases hsrc with hn | ⟨b, off, vals, rfl, hrv, hcell, hone, hyl, hz0, _⟩
      · exact absurd hn hnil
      · have hpos : 0 < ys.length := List.length_pos_iff.2 hnil
        have hvl : vals.length = ys.length * sz := by rw [← hrv.len, flatten_len _ _ hyl]
        simp only at hb h63
        have hr := run_append_nil (P := P) cx.w t o.type e ie z hu hi hz ⟨b, off, none⟩ ys.length cxp vals (by rw [his]; exact hvl) (fun j v hv => by rw [Addr.add_lit]; exact hcell j v hv) hpos (by omega) (by rw [hby]; omega)
        have hge := grownCap_ge cx.w ys.length 0 e
        have hcm : grownCap cx.w ys.length 0 e ≤ maxLen := grownCap_le_maxLen cx.w ys.length 0 e (by unfold maxLen; omega)
        generalize grownCap cx.w ys.length 0 e = g at hr hge hcm
        have hvl2 : (vals ++ zeroCellsL z (g - ys.length)).length = g * sz := by rw [List.length_append, hvl, zeroCellsL_len hzs, ← Nat.add_mul]; congr 1; omega
        have htk : ∀ cx', Le cx cx' → RepL cx' false ys.flatten ((vals ++ zeroCellsL z (g - ys.length)).take (ys.length * sz)) := fun cx' hle => by rw [List.take_append_of_le_length (by omega), List.take_of_length_le (by omega)]; exact hrv.mono hle
        have hon : ∀ x ∈ vals ++ zeroCellsL z (g - ys.length), x.oneCell' = true := mem_app hone (zeroCells_one hzone (by omega) _)
        rcases hK with hK | ⟨kp, hkp, hK⟩
        · have hpu := push_row (hrel_drew h1) e sz g (es := ys) (vals := vals ++ zeroCellsL z (g - ys.length)) h0 hyl hge hcm hvl2 (htk _ (le_drew cx)) hon
          refine ⟨_, .hs cx.H.length 0 ys.length ys.length, .slice (some ⟨cx.w.heap.size, 0, none⟩) ys.length g, ?_, hpu, (le_drew cx).trans (le_push _ _ _ _), ?_, ?_⟩
          · rw [hr]
            simp only [Result.andThen_ok, Cx.push, Cx.drew]
            congr 3
            simp [zeroCellsL]
          · have e1 : (Cx.push cx.drew (.cells (vals ++ zeroCellsL z (g - ys.length)).toArray e (0, 0)) (.row e sz ys) g).κ cx.H.length = cx.w.heap.size := updN_same _ _ _
            have e2 : (Cx.push cx.drew (.cells (vals ++ zeroCellsL z (g - ys.length)).toArray e (0, 0)) (.row e sz ys) g).γ cx.H.length = g := updN_same _ _ _
            refine .hs _ 0 ys.length ys.length _ rfl (.row e sz ys) (by simp [Cx.push, Cx.drew]) (.inr ⟨e, sz, ys, rfl, Nat.le_refl _, fun _ => ⟨by omega, ?_⟩⟩)
            rw [e1, e2]; simp
          · rw [h2]; exact h2 ▸ hK
        · have hkp' : cx.H[kp]? = some .pend := by rw [h2]; exact hkp
          obtain ⟨hfl, hfh⟩ := fill_row h1 (t := e) (sz := sz) (g := g) (es' := ys) (vals' := vals ++ zeroCellsL z (g - ys.length)) hkp' h0 hyl hge hcm hvl2 (htk _ (Le.refl _)) hon
          refine ⟨_, .hs kp 0 ys.length ys.length, .slice (some ⟨cx.w.heap.size, 0, none⟩) ys.length g, ?_, hfh, hfl, ?_, ?_⟩
          · rw [hr]
            simp only [Result.andThen_ok, Cx.regrow]
            congr 3
            simp [zeroCellsL]
          · have e1 : (Cx.regrow cx kp (.cells (vals ++ zeroCellsL z (g - ys.length)).toArray e (0, 0)) (.row e sz ys) g).κ kp = cx.w.heap.size := updN_same _ _ _
            have e2 : (Cx.regrow cx kp (.cells (vals ++ zeroCellsL z (g - ys.length)).toArray e (0, 0)) (.row e sz ys) g).γ kp = g := updN_same _ _ _
            refine .hs _ 0 ys.length ys.length _ rfl (.row e sz ys) (set_some hkp' _) (.inr ⟨e, sz, ys, rfl, Nat.le_refl _, fun _ => ⟨by omega, ?_⟩⟩)
            rw [e1, e2]; simp
          · show K _ (cx.H.set kp _)
            rw [h2]; exact hK
  · rename_i k n ver es'
    split at h
    · rename_i t' z' es hk
      obtain ⟨⟨ht', hz', hver⟩, h⟩ := h
      have ht2 : e = t' := ht'.symm
      have hz2 : sz = z' := hz'.symm
      subst ht2
      subst hz2
      have hk' : cx.H[k]? = some (.row e sz es) := h2 ▸ hk
      rw [es'] at hsr
      generalize hyy : ρc s = y at hsr
      cases hsr with
      | hs _ _ _ _ _ hone' bl hkk hp =>
        rw [hk'] at hkk; cases hkk
        rcases hp with hf | ⟨t'', sz'', es'', heq, hle, hyv⟩
        · simp [Blk.fixed] at hf
        · cases heq
          obtain ⟨hoff, hy⟩ := hyv hver
          subst hy
          simp only [Nat.zero_mul, Nat.zero_add, Nat.sub_zero] at hoff hyy ⊢
          obtain ⟨b1, b2, b3, b4, b5, b6, cur, b7, b8, b9, b10⟩ := h1.blk k _ hk'
          by_cases hnil : ys = []
          · subst hnil
            have hsame : cx.H.set k (.row e sz es) = cx.H := by
              apply List.ext_getElem?
              intro i
              by_cases hi' : k = i
              · subst hi'; rw [set_some hk', hk']
              · rw [set_other hi']
            simp only [List.length_nil, Nat.add_zero, List.append_nil, List.take_append_drop] at h
            have hK : K (.hs k 0 n ver) (H.set k (.row e sz es)) := by
              rcases h with ⟨_, h⟩ | ⟨_, h⟩ | ⟨⟨q1, q2, _⟩, h⟩
              · exact h
              · exact h
              · exact absurd q2 (by simp; omega)
            refine ⟨cx, .hs k 0 n ver, .slice (some ⟨cx.κ k, 0, none⟩) n (cx.γ k), ?_, h1, Le.refl _, .hs k 0 n ver _ rfl _ hk' (.inr ⟨e, sz, es, rfl, hle, fun _ => ⟨by omega, by simp⟩⟩), ?_⟩
            · simp only [List.length_nil, run_append_none hs o.type (some ⟨cx.κ k, 0, none⟩) ax n (cx.γ k) cxp (by omega) cx.w (fun b hb => by cases hb; rfl), Result.andThen_ok]
            · rw [← h2, hsame] at hK; exact hK
          · rcases hsrc with hn | ⟨b, off, vals, rfl, hrv, hcell, hone, hyl, hz0, _⟩
            · exact absurd hn hnil
            have hpos : 0 < ys.length := List.length_pos_iff.2 hnil
            have hvl : vals.length = ys.length * sz := by rw [← hrv.len, flatten_len _ _ hyl]
            have hcap2 : es.length * sz ≤ cx.γ k * sz := Nat.mul_le_mul_right _ b5
            by_cases hroom : n + ys.length ≤ cx.γ k
            · have hfit : (n + ys.length) * sz ≤ cx.γ k * sz := Nat.mul_le_mul_right _ hroom
              rw [Nat.add_mul] at hfit
              have hr := run_append_room (P := P) cx.w t o.type e ie hu hi (cx.κ k) n (cx.γ k) cur.toArray b7 ⟨b, off, none⟩ ys.length cxp vals (by rw [his]; exact hvl) (fun j v hv => by rw [Addr.add_lit]; exact hcell j v hv) hone hroom
                (by rw [his, hvl]; simp [b8]; omega)
              have hspl : (cur.toArray.toList.take (n * ie.size) ++ vals ++ cur.toArray.toList.drop (n * ie.size + vals.length)) = spl cur (n * sz) vals := by rw [his]; rfl
              rw [hspl] at hr
              have hsl : (spl cur (n * sz) vals).length = cx.γ k * sz := by rw [spl_length _ _ _ (by rw [hvl, b8]; omega), b8]
              rcases h with ⟨⟨hnv, _, _⟩, hK⟩ | ⟨hnv, hK⟩ | ⟨⟨hn1, hn2, _, _⟩, hK⟩
              · have hne : n = es.length := by omega
                obtain ⟨c1, c2⟩ := put_row (es' := es ++ ys) (vals' := spl cur (n * sz) vals) h1 hk' (mem_app b4 hyl) (by simp) (by simp; omega) hsl (by
                    have e1 : (spl cur (n * sz) vals).take ((es ++ ys).length * sz) = cur.take (es.length * sz) ++ vals := by
                      unfold spl
                      rw [List.length_append, Nat.add_mul, ← hvl, hne, List.append_assoc, List.take_append, List.take_of_length_le (by simp; omega)]
                      congr 1
                      rw [List.length_take, Nat.min_eq_left (by omega), Nat.add_sub_cancel_left, List.take_append_of_le_length (Nat.le_refl _), List.take_length]
                    rw [e1, List.flatten_append]
                    exact b9.append hrv) (spl_mem b10 hone)
                refine ⟨_, .hs k 0 (n + ys.length) (ver + ys.length), .slice (some ⟨cx.κ k, 0, none⟩) (n + ys.length) (cx.γ k), ?_, c2, c1, ?_, ?_⟩
                · rw [hr]; rfl
                · exact .hs k 0 _ _ _ rfl _ (set_some hk' _) (.inr ⟨e, sz, es ++ ys, rfl, by simp; omega, fun _ => ⟨by omega, by simp [Cx.put]⟩⟩)
                · show K _ (cx.H.set k _); rw [h2]; exact hK
              · have hl3 : (es.take n ++ ys ++ es.drop (n + ys.length)).length = es.length := by simp; omega
                obtain ⟨c1, c2⟩ := put_row (es' := es.take n ++ ys ++ es.drop (n + ys.length)) (vals' := spl cur (n * sz) vals) h1 hk' (fun e' he' => by
                    rcases List.mem_append.1 he' with hm | hm
                    · rcases List.mem_append.1 hm with hm | hm
                      · exact b4 _ (List.mem_of_mem_take hm)
                      · exact hyl _ hm
                    · exact b4 _ (List.mem_of_mem_drop hm)) (by rw [hl3]; omega) (by rw [hl3]; exact b5) hsl (by
                    rw [hl3, spl_take _ _ _ _ (by rw [hvl, ← Nat.add_mul]; exact Nat.mul_le_mul_right _ (by omega)) (by rw [b8]; exact hcap2)]
                    rw [List.flatten_append, List.flatten_append, flatten_take _ sz _ b4, flatten_drop _ sz _ b4]
                    have := b9.spl (n * sz) hrv
                    have e2 : spl es.flatten (n * sz) ys.flatten = es.flatten.take (n * sz) ++ ys.flatten ++ es.flatten.drop ((n + ys.length) * sz) := by
                      unfold spl
                      rw [flatten_len _ _ hyl, Nat.add_mul]
                    rw [← e2]; exact this) (spl_mem b10 hone)
                refine ⟨_, .hs k 0 (n + ys.length) ver, .slice (some ⟨cx.κ k, 0, none⟩) (n + ys.length) (cx.γ k), ?_, c2, c1, ?_, ?_⟩
                · rw [hr]; rfl
                · exact .hs k 0 _ _ _ rfl _ (set_some hk' _) (.inr ⟨e, sz, _, rfl, by rw [hl3]; omega, fun _ => ⟨by omega, by simp [Cx.put]⟩⟩)
                · show K _ (cx.H.set k _); rw [h2]; exact hK
              · have hnl : n ≤ es.length := by omega
                have hl3 : (es.take n ++ ys).length = n + ys.length := by simp; omega
                have b9' : RepL cx false (es.take n).flatten (cur.take (n * sz)) := by
                  have := b9.take (n * sz)
                  rw [List.take_take, Nat.min_eq_left (Nat.mul_le_mul_right _ hnl), ← flatten_take _ sz _ b4] at this
                  exact this
                obtain ⟨c1, c2⟩ := put_row (es' := es.take n ++ ys) (vals' := spl cur (n * sz) vals) h1 hk' (mem_app (fun e' he' => b4 e' (List.mem_of_mem_take he')) hyl) (by rw [hl3]; omega) (by rw [hl3]; exact hroom) hsl (by
                    have e1 : (spl cur (n * sz) vals).take ((es.take n ++ ys).length * sz) = cur.take (n * sz) ++ vals := by
                      unfold spl
                      rw [hl3, Nat.add_mul, ← hvl, List.append_assoc, List.take_append, List.take_of_length_le (by simp; omega)]
                      congr 1
                      rw [List.length_take, Nat.min_eq_left (by rw [b8]; exact Nat.mul_le_mul_right _ (by omega)), Nat.add_sub_cancel_left, List.take_append_of_le_length (Nat.le_refl _), List.take_length]
                    rw [e1, List.flatten_append]
                    exact b9'.append hrv) (spl_mem b10 hone)
                refine ⟨_, .hs k 0 (n + ys.length) (n + ys.length), .slice (some ⟨cx.κ k, 0, none⟩) (n + ys.length) (cx.γ k), ?_, c2, c1, ?_, ?_⟩
                · rw [hr]; rfl
                · exact .hs k 0 _ _ _ rfl _ (set_some hk' _) (.inr ⟨e, sz, es.take n ++ ys, rfl, by rw [hl3]; exact Nat.le_refl _, fun _ => ⟨by omega, by simp [Cx.put]⟩⟩)
                · show K _ (cx.H.set k _); rw [h2]; exact hK
            · rcases h with ⟨⟨hnv, hb, h63⟩, hK⟩ | ⟨hnv, hK⟩ | ⟨⟨hn1, hn2, hb, h63⟩, hK⟩
              · simp only at hb h63
                have hne : n = es.length := by omega
                have holds : ∀ (j : Nat) v, (cur.take (n * sz))[j]? = some v → cx.w.cell? ((⟨cx.κ k, 0, none⟩ : Addr).add j) = some v := fun j v hj => by
                  rw [Addr.add_lit, cell_of_row _ _ _ _ _ _ b7]
                  rw [List.getElem?_take] at hj
                  split at hj
                  · simpa using hj
                  · cases hj
                have hcl : (cur.take (n * sz)).length = n * sz := by rw [List.length_take, b8]; exact Nat.min_eq_left (by rw [hne]; exact hcap2)
                have hr := run_append_grow (P := P) cx.w t o.type e ie z hu hi hz ⟨cx.κ k, 0, none⟩ n (cx.γ k) (cur.take (n * sz)) (by rw [his]; exact hcl) holds ⟨b, off, none⟩ ys.length cxp vals (by rw [his]; exact hvl)
                  (fun j v hv => by rw [Addr.add_lit]; exact hcell j v hv) (by omega) (by omega) (growslice_fits (by omega) (by rw [hby]; exact hb))
                have hge := grownCap_ge cx.w (n + ys.length) (cx.γ k) e
                have hcm : grownCap cx.w (n + ys.length) (cx.γ k) e ≤ maxLen := grownCap_le_maxLen cx.w (n + ys.length) (cx.γ k) e (by unfold maxLen; omega)
                generalize grownCap cx.w (n + ys.length) (cx.γ k) e = g at hr hge hcm
                obtain ⟨c1, c2⟩ := regrow_row (es' := es ++ ys) (g := g) (vals' := cur.take (n * sz) ++ vals ++ zeroCellsL z (g - (n + ys.length))) h1 hk' (mem_app b4 hyl)
                  (by simp; omega) (by simp; omega) hcm (by rw [List.length_append, List.length_append, hcl, hvl, zeroCellsL_len hzs, ← Nat.add_mul, ← Nat.add_mul]; congr 1; omega) (by
                    have e1 : (cur.take (n * sz) ++ vals ++ zeroCellsL z (g - (n + ys.length))).take ((es ++ ys).length * sz) = cur.take (es.length * sz) ++ vals := by
                      rw [List.length_append, Nat.add_mul, ← hvl, ← hne, List.take_append_of_le_length (by rw [List.length_append, hcl]; exact Nat.le_refl _), List.take_of_length_le (by rw [List.length_append, hcl]; exact Nat.le_refl _)]
                    rw [e1, List.flatten_append]
                    exact b9.append hrv) (fun x hx => by
                    rcases List.mem_append.1 hx with hx | hx
                    · rcases List.mem_append.1 hx with hx | hx
                      · exact b10 x (List.mem_of_mem_take hx)
                      · exact hone x hx
                    · exact zeroCells_one hzone (by omega) _ x hx)
                refine ⟨_, .hs k 0 (n + ys.length) (ver + ys.length), .slice (some ⟨cx.w.heap.size, 0, none⟩) (n + ys.length) g, ?_, c2, c1, ?_, ?_⟩
                · rw [hr]
                  simp only [Result.andThen_ok, Cx.regrow]
                  congr 3
                  simp [zeroCellsL]
                · have e1 : (Cx.regrow cx k (.cells (cur.take (n * sz) ++ vals ++ zeroCellsL z (g - (n + ys.length))).toArray e (0, 0)) (.row e sz (es ++ ys)) g).κ k = cx.w.heap.size := updN_same _ _ _
                  have e2 : (Cx.regrow cx k (.cells (cur.take (n * sz) ++ vals ++ zeroCellsL z (g - (n + ys.length))).toArray e (0, 0)) (.row e sz (es ++ ys)) g).γ k = g := updN_same _ _ _
                  refine .hs k 0 _ _ _ rfl _ (set_some hk' _) (.inr ⟨e, sz, es ++ ys, rfl, by simp; omega, fun _ => ⟨by omega, ?_⟩⟩)
                  rw [e1, e2]; simp
                · show K _ (cx.H.set k _); rw [h2]; exact hK
              · exact absurd hnv (by omega)
              · simp only at hb h63
                have hnl : n ≤ es.length := by omega
                have hl3 : (es.take n ++ ys).length = n + ys.length := by simp; omega
                have b9' : RepL cx false (es.take n).flatten (cur.take (n * sz)) := by
                  have := b9.take (n * sz)
                  rw [List.take_take, Nat.min_eq_left (Nat.mul_le_mul_right _ hnl), ← flatten_take _ sz _ b4] at this
                  exact this
                have hcn : n * sz ≤ cx.γ k * sz := Nat.mul_le_mul_right _ (by omega)
                have holds : ∀ (j : Nat) v, (cur.take (n * sz))[j]? = some v → cx.w.cell? ((⟨cx.κ k, 0, none⟩ : Addr).add j) = some v := fun j v hj => by
                  rw [Addr.add_lit, cell_of_row _ _ _ _ _ _ b7]
                  rw [List.getElem?_take] at hj
                  split at hj
                  · simpa using hj
                  · cases hj
                have hcl : (cur.take (n * sz)).length = n * sz := by rw [List.length_take, b8]; exact Nat.min_eq_left hcn
                have hr := run_append_grow (P := P) cx.w t o.type e ie z hu hi hz ⟨cx.κ k, 0, none⟩ n (cx.γ k) (cur.take (n * sz)) (by rw [his]; exact hcl) holds ⟨b, off, none⟩ ys.length cxp vals (by rw [his]; exact hvl)
                  (fun j v hv => by rw [Addr.add_lit]; exact hcell j v hv) (by omega) (by omega) (growslice_fits (by omega) (by rw [hby]; exact hb))
                have hge := grownCap_ge cx.w (n + ys.length) (cx.γ k) e
                have hcm : grownCap cx.w (n + ys.length) (cx.γ k) e ≤ maxLen := grownCap_le_maxLen cx.w (n + ys.length) (cx.γ k) e (by unfold maxLen; omega)
                generalize grownCap cx.w (n + ys.length) (cx.γ k) e = g at hr hge hcm
                obtain ⟨c1, c2⟩ := regrow_row (es' := es.take n ++ ys) (g := g) (vals' := cur.take (n * sz) ++ vals ++ zeroCellsL z (g - (n + ys.length))) h1 hk' (mem_app (fun e' he' => b4 e' (List.mem_of_mem_take he')) hyl)
                  (by rw [hl3]; omega) (by rw [hl3]; omega) hcm (by rw [List.length_append, List.length_append, hcl, hvl, zeroCellsL_len hzs, ← Nat.add_mul, ← Nat.add_mul]; congr 1; omega) (by
                    have e1 : (cur.take (n * sz) ++ vals ++ zeroCellsL z (g - (n + ys.length))).take ((es.take n ++ ys).length * sz) = cur.take (n * sz) ++ vals := by
                      rw [hl3, Nat.add_mul, ← hvl, List.take_append_of_le_length (by rw [List.length_append, hcl]; exact Nat.le_refl _), List.take_of_length_le (by rw [List.length_append, hcl]; exact Nat.le_refl _)]
                    rw [e1, List.flatten_append]
                    exact b9'.append hrv) (fun x hx => by
                    rcases List.mem_append.1 hx with hx | hx
                    · rcases List.mem_append.1 hx with hx | hx
                      · exact b10 x (List.mem_of_mem_take hx)
                      · exact hone x hx
                    · exact zeroCells_one hzone (by omega) _ x hx)
                refine ⟨_, .hs k 0 (n + ys.length) (n + ys.length), .slice (some ⟨cx.w.heap.size, 0, none⟩) (n + ys.length) g, ?_, c2, c1, ?_, ?_⟩
                · rw [hr]
                  simp only [Result.andThen_ok, Cx.regrow]
                  congr 3
                  simp [zeroCellsL]
                · have e1 : (Cx.regrow cx k (.cells (cur.take (n * sz) ++ vals ++ zeroCellsL z (g - (n + ys.length))).toArray e (0, 0)) (.row e sz (es.take n ++ ys)) g).κ k = cx.w.heap.size := updN_same _ _ _
                  have e2 : (Cx.regrow cx k (.cells (cur.take (n * sz) ++ vals ++ zeroCellsL z (g - (n + ys.length))).toArray e (0, 0)) (.row e sz (es.take n ++ ys)) g).γ k = g := updN_same _ _ _
                  refine .hs k 0 _ _ _ rfl _ (set_some hk' _) (.inr ⟨e, sz, es.take n ++ ys, rfl, by rw [hl3]; exact Nat.le_refl _, fun _ => ⟨by omega, ?_⟩⟩)
                  rw [e1, e2]; simp
                · show K _ (cx.H.set k _); rw [h2]; exact hK
    · exact h.elim
  · exact h.elim
theorem sound_append_fz {s x : Operand} {t : TypeId} (ho : o.op = .call { callee := .builtin .append, args := #[s, x], argTypes := #[t, t] })
    (h : bindO (slbOf P t) fun sl => match ρ s, ρ x with
      | .v (.slice none 0 0), .vs sz ys => andV (sz = sl.2.1) (andV (ys.length * sl.2.2.2 ≤ 140737488355328 ∧ ys.length ≤ 9223372036854775807) (K (.vs sz ys) H))
      | _, _ => False) : OpSem P o ρ H K pan := by
  obtain ⟨⟨e, sz, zc, by_⟩, hs, h⟩ := h
  obtain ⟨ie, z, hu, hi, hz, hzs, his, h0, hzc, hby⟩ := slbOf_spec hs
  refine opsem_val fun B w0 cx ρc h1 h2 h3 => ?_
  have hsr := h3 s (by simp [Op.operands, Call.operands, ho])
  have hxr := h3 x (by simp [Op.operands, Call.operands, ho])
  rw [exec_append ho]
  split at h
  · rename_i sz' ys es' ex'
    obtain ⟨hszz, ⟨hb, h63⟩, hK⟩ := h
    have hz2 : sz = sz' := hszz.symm
    subst hz2
    rw [es'] at hsr
    rw [hsr.v_inv]
    obtain ⟨ax, cxp, hyx, hlc, hsrc⟩ := src_rep (sz := sz) h1 (x := ρ x) (ys := ys) (by simp [srcEs, ex']) hxr
    rw [hyx]
    by_cases hnil : ys = []
    · subst hnil
      refine ⟨cx, .vs sz [], .slice none 0 0, ?_, h1, Le.refl _, .vs0 _ _ _, h2 ▸ hK⟩
      simp only [List.length_nil, run_append_none hs o.type none ax 0 0 cxp (Nat.le_refl _) cx.w (fun b hb => by cases hb), Result.andThen_ok]
    · rcases hsrc with hn | ⟨b, off, vals, rfl, hrv, hcell, hone, hyl, hz0, hstr⟩
      · exact absurd hn hnil
      · have hpos : 0 < ys.length := List.length_pos_iff.2 hnil
        have hvl : vals.length = ys.length * sz := by rw [← hrv.len, flatten_len _ _ hyl]
        simp only at hb h63
        have hr := run_append_nil (P := P) cx.w t o.type e ie z hu hi hz ⟨b, off, none⟩ ys.length cxp vals (by rw [his]; exact hvl) (fun j v hv => by rw [Addr.add_lit]; exact hcell j v hv) hpos (by omega) (by rw [hby]; omega)
        have hge := grownCap_ge cx.w ys.length 0 e
        generalize grownCap cx.w ys.length 0 e = g at hr hge
        refine ⟨cx.drew.frozen (.cells (vals ++ zeroCellsL z (g - ys.length)).toArray e (0, 0)), .vs sz ys, .slice (some ⟨cx.w.heap.size, 0, none⟩) ys.length g, ?_, hrel_frozen (hrel_drew h1) _, (le_drew cx).trans (le_frozen _ _), ?_, h2 ▸ hK⟩
        · rw [hr]
          simp only [Result.andThen_ok, Cx.frozen, Cx.drew]
          congr 3
          simp [zeroCellsL]
        · have hst := (hstr ⟨_, _, ex'⟩).mono ((le_drew cx).trans (le_frozen cx.drew (.cells (vals ++ zeroCellsL z (g - ys.length)).toArray e (0, 0))))
          refine .vs sz ys cx.w.heap.size 0 g vals (.inr rfl) h0 hge hyl hst.len hone (fun j x hx => ?_) hst.rep
          have hnew : (cx.w.drew.alloc (.cells (vals ++ zeroCellsL z (g - ys.length)).toArray e (0, 0))).heap[cx.w.heap.size]? = _ := heap_alloc_new cx.w.drew _
          show (cx.w.drew.alloc _).cell? _ = _
          rw [cell_of_row _ _ _ _ _ _ hnew]
          simp only [Nat.zero_add, List.getElem?_toArray]
          rw [List.getElem?_append_left (List.getElem?_eq_some_iff.1 hx).1]; exact hx
  · exact h.elim
theorem sound_append_fx {s x : Operand} {t : TypeId} (ho : o.op = .call { callee := .builtin .append, args := #[s, x], argTypes := #[t, t] })
    (h : bindO (slbOf P t) fun sl => match ρ s, ρ x with
      | .vx sz' xs, .vs sz ys => andV (sz' = sl.2.1 ∧ sz = sl.2.1) (andV ((xs.length + ys.length) * sl.2.2.2 ≤ 140737488355328 ∧ xs.length + ys.length ≤ 9223372036854775807) (K (.vs sz (xs ++ ys)) H))
      | _, _ => False) : OpSem P o ρ H K pan := by
  obtain ⟨⟨e, sz, zc, by_⟩, hs, h⟩ := h
  obtain ⟨ie, z, hu, hi, hz, hzs, his, h0, hzc, hby⟩ := slbOf_spec hs
  refine opsem_val fun B w0 cx ρc h1 h2 h3 => ?_
  have hsr := h3 s (by simp [Op.operands, Call.operands, ho])
  have hxr := h3 x (by simp [Op.operands, Call.operands, ho])
  rw [exec_append ho]
  split at h
  · rename_i sz1 xs sz2 ys es' ex'
    obtain ⟨⟨hsz1, hsz2⟩, ⟨hb, h63⟩, hK⟩ := h
    have hz1 : sz = sz1 := hsz1.symm
    have hz2 : sz = sz2 := hsz2.symm
    subst hz1; subst hz2
    rw [es'] at hsr
    generalize hq : ρc s = q at hsr
    cases hsr with
    | vx _ _ bb oo valx hfx hzx hlx hnx hox hcx hrx =>
    obtain ⟨ax, cxp, hyx, hlc, hsrc⟩ := src_rep (sz := sz) h1 (x := ρ x) (ys := ys) (by simp [srcEs, ex']) hxr
    rw [hyx]
    by_cases hnil : ys = []
    · subst hnil
      refine ⟨cx, .vs sz (xs ++ []), .slice (some ⟨bb, oo, none⟩) xs.length xs.length, ?_, h1, Le.refl _, ?_, h2 ▸ hK⟩
      · simp only [List.length_nil, run_append_none hs o.type (some ⟨bb, oo, none⟩) ax xs.length xs.length cxp (Nat.le_refl _) cx.w (fun b hb => by cases hb; rfl), Result.andThen_ok]
      · rw [List.append_nil]
        exact .vs sz xs bb oo xs.length valx hfx hzx (Nat.le_refl _) hlx hnx hox hcx hrx
    · rcases hsrc with hn | ⟨b, off, vals, rfl, hrv, hcell, hone, hyl, hz0, hstr⟩
      · exact absurd hn hnil
      · have hpos : 0 < ys.length := List.length_pos_iff.2 hnil
        have hvl : vals.length = ys.length * sz := by rw [← hrv.len, flatten_len _ _ hyl]
        have hxl : valx.length = xs.length * sz := by rw [← hnx, flatten_len _ _ hlx]
        simp only at hb h63
        have hr := run_append_grow (P := P) cx.w t o.type e ie z hu hi hz ⟨bb, oo, none⟩ xs.length xs.length valx (by rw [his]; exact hxl) (fun j v hv => by rw [Addr.add_lit]; exact hcx j v hv) ⟨b, off, none⟩ ys.length cxp vals (by rw [his]; exact hvl)
          (fun j v hv => by rw [Addr.add_lit]; exact hcell j v hv) (by omega) (by omega) (growslice_fits (by omega) (by rw [hby]; exact hb))
        have hge := grownCap_ge cx.w (xs.length + ys.length) xs.length e
        generalize grownCap cx.w (xs.length + ys.length) xs.length e = g at hr hge
        refine ⟨cx.drew.frozen (.cells (valx ++ vals ++ zeroCellsL z (g - (xs.length + ys.length))).toArray e (0, 0)), .vs sz (xs ++ ys), .slice (some ⟨cx.w.heap.size, 0, none⟩) (xs.length + ys.length) g, ?_, hrel_frozen (hrel_drew h1) _, (le_drew cx).trans (le_frozen _ _), ?_, h2 ▸ hK⟩
        · rw [hr]
          simp only [Result.andThen_ok, Cx.frozen, Cx.drew]
          congr 3
          simp [zeroCellsL]
        · have hst := ((RepL.mk hnx hrx).append (hstr ⟨_, _, ex'⟩)).mono ((le_drew cx).trans (le_frozen cx.drew (.cells (valx ++ vals ++ zeroCellsL z (g - (xs.length + ys.length))).toArray e (0, 0))))
          rw [← List.flatten_append] at hst
          have hlen : (xs ++ ys).length = xs.length + ys.length := by simp
          have key := Rep.vs (cx := cx.drew.frozen (.cells (valx ++ vals ++ zeroCellsL z (g - (xs.length + ys.length))).toArray e (0, 0))) (z := false) sz (xs ++ ys) cx.w.heap.size 0 g (valx ++ vals) (.inr rfl) h0 (by rw [hlen]; exact hge) (mem_app hlx hyl) hst.len (fun v hv => by
            rcases List.mem_append.1 hv with hv | hv
            · exact hox v hv
            · exact hone v hv) (fun j x hx => by
            have hnew : (cx.w.drew.alloc (.cells (valx ++ vals ++ zeroCellsL z (g - (xs.length + ys.length))).toArray e (0, 0))).heap[cx.w.heap.size]? = _ := heap_alloc_new cx.w.drew _
            show (cx.w.drew.alloc _).cell? _ = _
            rw [cell_of_row _ _ _ _ _ _ hnew]
            simp only [Nat.zero_add, List.getElem?_toArray]
            rw [List.getElem?_append_left (List.getElem?_eq_some_iff.1 hx).1]; exact hx) hst.rep
          rwa [hlen] at key
  · exact h.elim
end
end Go.Mu
