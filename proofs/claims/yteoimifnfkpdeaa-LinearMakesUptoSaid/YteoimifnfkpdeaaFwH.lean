/- Operations over abstract values, one by one (5): append, slices of slices, make, an index, an assertion. -/
import Derived.Test.YteoimifnfkpdeaaFwG
set_option linter.unusedVariables false
set_option linter.unusedSimpArgs false
namespace Go.Mu
open Go.RowKit (Below)

/-- The elements of a slice that is read. -/
def srcEs (H : List Blk) (sz : Nat) (x : AV) : Option (List (List AV)) :=
  match x with
  | .vs sz' es => if sz' = sz then some es else none
  | .v (.slice none 0 0) => some []
  | .hs k off n ver => match H[k]? with | some (.row _ z es) => if z = sz ∧ es.length = ver then some ((es.drop off).take n) else none | _ => none
  | _ => none

theorem flatten_drop {α : Type} : ∀ (es : List (List α)) (sz n : Nat), (∀ e ∈ es, e.length = sz) → (es.drop n).flatten = es.flatten.drop (n * sz)
  | [], sz, n, _ => by simp
  | d :: ds, sz, 0, _ => by simp
  | d :: ds, sz, n + 1, hl => by
    have hd : d.length = sz := hl d (by simp)
    rw [List.drop_succ_cons, List.flatten_cons, flatten_drop ds sz n (fun e he => hl e (by simp [he])), Nat.succ_mul, Nat.add_comm, ← hd, List.drop_length_add_append]
theorem flatten_take {α : Type} : ∀ (es : List (List α)) (sz n : Nat), (∀ e ∈ es, e.length = sz) → (es.take n).flatten = es.flatten.take (n * sz)
  | [], sz, n, _ => by simp
  | d :: ds, sz, 0, _ => by simp
  | d :: ds, sz, n + 1, hl => by
    have hd : d.length = sz := hl d (by simp)
    rw [List.take_succ_cons, List.flatten_cons, List.flatten_cons, flatten_take ds sz n (fun e he => hl e (by simp [he])), Nat.succ_mul, Nat.add_comm, ← hd, List.take_length_add_append]

theorem src_rep {B : Nat} {w0 : World} {cx : Cx} (h : HRel B w0 cx) {sz : Nat} {x : AV} {ys : List (List AV)} {y : Value} (hs : srcEs cx.H sz x = some ys) (hr : Rep cx false x y) :
    ∃ a c, y = .slice a ys.length c ∧ ys.length ≤ c ∧ (ys = [] ∨ ∃ (b o : Nat) (vals : List Value), a = some ⟨b, o, none⟩ ∧ RepL cx false ys.flatten vals ∧ (∀ (j : Nat) v, vals[j]? = some v → cx.w.cell? ⟨b, o + j, none⟩ = some v) ∧
      (∀ v ∈ vals, v.oneCell' = true) ∧ (∀ e ∈ ys, e.length = sz) ∧ 0 < sz ∧ ((∃ s es, x = .vs s es) → RepL cx true ys.flatten vals)) := by
  unfold srcEs at hs
  split at hs
  · rename_i sz' es
    split at hs
    · rename_i he
      subst he; cases hs
      cases hr with
      | vs0 sz a cap => exact ⟨a, cap, rfl, Nat.zero_le _, .inl rfl⟩
      | vs sz es b o cap vals hf hz hcap hl hn ho hc hr => exact ⟨_, cap, rfl, hcap, .inr ⟨b, o, vals, rfl, (RepL.mk hn hr).weak, hc, ho, hl, hz, fun _ => ⟨hn, hr⟩⟩⟩
    · cases hs
  · cases hs; have := hr.v_inv; exact ⟨none, 0, this, Nat.zero_le _, .inl rfl⟩
  · rename_i k off n ver
    split at hs
    · rename_i t z es hk
      split at hs
      · rename_i hc
        obtain ⟨rfl, hv⟩ := hc
        cases hs
        cases hr with
        | hs _ _ _ _ _ hone bl hk' hp =>
          rw [hk] at hk'; cases hk'
          rcases hp with hf | ⟨t', sz', es', heq, hle, hyy⟩
          · simp [Blk.fixed] at hf
          · cases heq
            obtain ⟨hoff, hy⟩ := hyy hv
            obtain ⟨b1, b2, b3, b4, b5, b6, cur, b7, b8, b9, b10⟩ := h.blk k _ hk
            have hlen : ((es.drop off).take n).length = n := by simp; omega
            have hl2 : ∀ e ∈ (es.drop off).take n, e.length = z := fun e he => b4 e (List.mem_of_mem_drop (List.mem_of_mem_take he))
            refine ⟨_, _, by rw [hlen]; exact hy, by rw [hlen]; omega, .inr ⟨cx.κ k, off * z, ((cur.take (es.length * z)).drop (off * z)).take (n * z), rfl, ?_, fun j v hj => ?_, fun v hv' => ?_, hl2, b3, fun ⟨s, es, he⟩ => by cases he⟩⟩
            · rw [flatten_take _ z _ (fun e he => b4 e (List.mem_of_mem_drop he)), flatten_drop _ z _ b4]
              exact (b9.drop _).take _
            · rw [List.getElem?_take] at hj
              split at hj
              · rw [List.getElem?_drop, List.getElem?_take] at hj
                split at hj
                · rw [cell_of_row _ _ _ _ _ _ b7]; simpa using hj
                · cases hj
              · cases hj
            · exact b10 v (List.mem_of_mem_take (List.mem_of_mem_drop (List.mem_of_mem_take hv')))
      · cases hs
    · cases hs
  · cases hs

theorem mem_app {α : Type} {p : α → Prop} {l l' : List α} (h : ∀ x ∈ l, p x) (k : ∀ x ∈ l', p x) : ∀ x ∈ l ++ l', p x := fun x hx => by
  rcases List.mem_append.1 hx with hx | hx
  · exact h x hx
  · exact k x hx
theorem toArray_toList {α : Type} (l : List α) : l.toArray.toList = l := rfl

section
variable {P : Program} {o : Oper} {ρ : Operand → AV} {H : List Blk} {K pan : AV → List Blk → Prop}

theorem exec_append {s x : Operand} {t : TypeId} (ho : o.op = .call { callee := .builtin .append, args := #[s, x], argTypes := #[t, t] }) (ρc : Operand → Value) (w : World) :
    (execOp ρc o).run P w = ((Builtin.append_ #[t, t] o.type #[ρc s, ρc x]).run P w).andThen fun v w => .ok (.value v) w := by
  simp [execOp, ho, resolve, invoke, builtin]

/-- Nothing is appended. -/
theorem run_append_none {t e : TypeId} {sz by_ : Nat} {zc : List Value} (hs : slbOf P t = some (e, sz, zc, by_)) (ty : TypeId) (a a' : Option Addr) (n c c' : Nat) (hn : n ≤ c) (w : World) (hsp : ∀ b, a = some b → b.spot = none) :
    (Builtin.append_ #[t, t] ty #[.slice a n c, .slice a' 0 c']).run P w = .ok (.slice a n c) w := by
  obtain ⟨ie, z, hu, hi, hz, hzs, his, h0, hzc, hby⟩ := slbOf_spec hs
  have hf : (Builtin.firstCells ie.size 0 (.slice a' 0 c')).run P w = .ok #[] w := by
    cases a' <;> simp [Builtin.firstCells, loadCells, loadCellsFrom]
  simp only [Builtin.append_, run_underlying hu, sizeOf, typeInfo, run_program, hi, Sem.run_bind, Sem.run_pure, Result.andThen_ok, Builtin.lenOf, List.getElem?_toArray, List.getElem?_cons_zero, List.getElem?_cons_succ]
  cases a <;> simp [hn, hf, storeCells, loadCells, loadCellsFrom, hi, run_underlying hu]

def zeroCellsL (z : Value) (n : Nat) : List Value := (Builtin.zeroCells z.cells n).toList
theorem zeroCellsL_len {z : Value} {sz : Nat} (hz : z.cells.size = sz) (n : Nat) : (zeroCellsL z n).length = n * sz := by
  simp [zeroCellsL, size_zeroCells, hz]
theorem zeroCells_one {z : Value} (hz : ∀ x ∈ z.cells, x.oneCell' = true) (h0 : 0 < z.cells.size) (n : Nat) : ∀ x ∈ zeroCellsL z n, x.oneCell' = true := by
  intro x hx
  simp only [zeroCellsL, Builtin.zeroCells, Array.toList_map, List.mem_map] at hx
  obtain ⟨j, _, rfl⟩ := hx
  rw [getElem!_pos z.cells (j % z.cells.size) (Nat.mod_lt _ h0)]
  exact hz _ (Array.getElem_mem _)

/-- One row behind the other. -/
def appendV (H : List Blk) (sl : TypeId × Nat × List Value × Nat) (s : AV) (ys : List (List AV)) (K : AV → List Blk → Prop) : Prop :=
  match s with
  | .v (.slice none 0 0) => (ys = [] → K (.v (.slice none 0 0)) H) ∧ (ys ≠ [] → ys.length * sl.2.2.2 ≤ 140737488355328 ∧ ys.length ≤ 9223372036854775807 ∧ (K (.hs H.length 0 ys.length ys.length) (H ++ [.row sl.1 sl.2.1 ys]) ∨ ∃ k, H[k]? = some .pend ∧ K (.hs k 0 ys.length ys.length) (H.set k (.row sl.1 sl.2.1 ys))))
  | .hs k 0 n ver => match H[k]? with
    | some (.row t z es) => andV (t = sl.1 ∧ z = sl.2.1 ∧ es.length = ver)
        (((n = ver ∧ (n + ys.length) * sl.2.2.2 ≤ 140737488355328 ∧ n + ys.length ≤ 9223372036854775807) ∧ K (.hs k 0 (n + ys.length) (ver + ys.length)) (H.set k (.row t z (es ++ ys)))) ∨
         (n + ys.length ≤ ver ∧ K (.hs k 0 (n + ys.length) ver) (H.set k (.row t z (es.take n ++ ys ++ es.drop (n + ys.length))))))
    | _ => False
  | _ => False

theorem sound_append {s x : Operand} {t : TypeId} (ho : o.op = .call { callee := .builtin .append, args := #[s, x], argTypes := #[t, t] })
    (h : bindO (slbOf P t) fun sl => andV (sl.2.2.1.all Value.oneCell' = true) (bindO (srcEs H sl.2.1 (ρ x)) fun ys => appendV H sl (ρ s) ys K)) : OpSem P o ρ H K pan := by
  obtain ⟨⟨e, sz, zc, by_⟩, hs, hz1, ys, hys, h⟩ := h
  obtain ⟨ie, z, hu, hi, hz, hzs, his, h0, hzc, hby⟩ := slbOf_spec hs
  have hzone : ∀ x ∈ z.cells, x.oneCell' = true := fun x hx => List.all_eq_true.1 hz1 x (by rw [← hzc]; simpa using hx)
  refine opsem_val fun B w0 cx ρc h1 h2 h3 => ?_
  have hsr := h3 s (by simp [Op.operands, Call.operands, ho])
  have hxr := h3 x (by simp [Op.operands, Call.operands, ho])
  rw [exec_append ho]
  obtain ⟨ax, cxp, hyx, hlc, hsrc⟩ := src_rep h1 (h2 ▸ hys) hxr
  rw [hyx]
  simp only at hys
  unfold appendV at h
  split at h
  · rename_i es'
    rw [es'] at hsr
    have ey := hsr.v_inv
    rw [ey]
    by_cases hnil : ys = []
    · subst hnil
      refine ⟨cx, .v (.slice none 0 0), .slice none 0 0, ?_, h1, Le.refl _, .v _, h2 ▸ h.1 rfl⟩
      simp only [List.length_nil, run_append_none hs o.type none ax 0 0 cxp (Nat.le_refl _) cx.w (fun b hb => by cases hb), Result.andThen_ok]
    · obtain ⟨hb, h63, hK⟩ := h.2 hnil
      rcases hsrc with hn | ⟨b, off, vals, rfl, hrv, hcell, hone, hyl, hz0, _⟩
      · exact absurd hn hnil
      · have hpos : 0 < ys.length := List.length_pos_iff.2 hnil
        have hvl : vals.length = ys.length * sz := by rw [← hrv.len, flatten_len _ _ hyl]
        simp only at hb h63
        have hr := run_append_nil (P := P) cx.w t o.type e ie z hu hi hz ⟨b, off, none⟩ ys.length cxp vals (by rw [his]; exact hvl) (fun j v hv => by rw [Addr.add_lit]; exact hcell j v hv) hpos (by omega) (by rw [hby]; omega)
        have hge := grownCap_ge cx.w ys.length 0 e
        have hcm : grownCap cx.w ys.length 0 e ≤ maxLen := grownCap_le_maxLen cx.w ys.length 0 e (by unfold maxLen; omega)
        generalize grownCap cx.w ys.length 0 e = g at hr hge hcm
        have hvl2 : (vals ++ zeroCellsL z (g - ys.length)).length = g * sz := by rw [List.length_append, hvl, zeroCellsL_len hzs, ← Nat.add_mul]; congr 1; omega
        have htk : ∀ cx', Le cx cx' → RepL cx' false ys.flatten ((vals ++ zeroCellsL z (g - ys.length)).take (ys.length * sz)) := fun cx' hle => by rw [List.take_append_of_le_length (by omega), List.take_of_length_le (by omega)]; exact hrv.mono hle
        have hon : ∀ x ∈ vals ++ zeroCellsL z (g - ys.length), x.oneCell' = true := mem_app hone (zeroCells_one hzone (by omega) _)
        rcases hK with hK | ⟨kp, hkp, hK⟩
        · have hpu := push_row (hrel_drew h1) e sz g (es := ys) (vals := vals ++ zeroCellsL z (g - ys.length)) h0 hyl hge hcm hvl2 (htk _ (le_drew cx)) hon
          refine ⟨_, .hs cx.H.length 0 ys.length ys.length, .slice (some ⟨cx.w.heap.size, 0, none⟩) ys.length g, ?_, hpu, (le_drew cx).trans (le_push _ _ _ _), ?_, ?_⟩
          · rw [hr]
            simp only [Result.andThen_ok, Cx.push, Cx.drew]
            congr 3
            simp [zeroCellsL]
          · have e1 : (Cx.push cx.drew (.cells (vals ++ zeroCellsL z (g - ys.length)).toArray e (0, 0)) (.row e sz ys) g).κ cx.H.length = cx.w.heap.size := updN_same _ _ _
            have e2 : (Cx.push cx.drew (.cells (vals ++ zeroCellsL z (g - ys.length)).toArray e (0, 0)) (.row e sz ys) g).γ cx.H.length = g := updN_same _ _ _
            refine .hs _ 0 ys.length ys.length _ rfl (.row e sz ys) (by simp [Cx.push, Cx.drew]) (.inr ⟨e, sz, ys, rfl, Nat.le_refl _, fun _ => ⟨by omega, ?_⟩⟩)
            rw [e1, e2]; simp
          · rw [h2]; exact h2 ▸ hK
        · have hkp' : cx.H[kp]? = some .pend := by rw [h2]; exact hkp
          obtain ⟨hfl, hfh⟩ := fill_row h1 (t := e) (sz := sz) (g := g) (es' := ys) (vals' := vals ++ zeroCellsL z (g - ys.length)) hkp' h0 hyl hge hcm hvl2 (htk _ (Le.refl _)) hon
          refine ⟨_, .hs kp 0 ys.length ys.length, .slice (some ⟨cx.w.heap.size, 0, none⟩) ys.length g, ?_, hfh, hfl, ?_, ?_⟩
          · rw [hr]
            simp only [Result.andThen_ok, Cx.regrow]
            congr 3
            simp [zeroCellsL]
          · have e1 : (Cx.regrow cx kp (.cells (vals ++ zeroCellsL z (g - ys.length)).toArray e (0, 0)) (.row e sz ys) g).κ kp = cx.w.heap.size := updN_same _ _ _
            have e2 : (Cx.regrow cx kp (.cells (vals ++ zeroCellsL z (g - ys.length)).toArray e (0, 0)) (.row e sz ys) g).γ kp = g := updN_same _ _ _
            refine .hs _ 0 ys.length ys.length _ rfl (.row e sz ys) (set_some hkp' _) (.inr ⟨e, sz, ys, rfl, Nat.le_refl _, fun _ => ⟨by omega, ?_⟩⟩)
            rw [e1, e2]; simp
          · show K _ (cx.H.set kp _)
            rw [h2]; exact hK
  · rename_i k n ver es'
    split at h
    · rename_i t' z' es hk
      obtain ⟨⟨ht', hz', hver⟩, h⟩ := h
      have ht2 : e = t' := ht'.symm
      have hz2 : sz = z' := hz'.symm
      subst ht2
      subst hz2
      have hk' : cx.H[k]? = some (.row e sz es) := h2 ▸ hk
      rw [es'] at hsr
      generalize hyy : ρc s = y at hsr
      cases hsr with
      | hs _ _ _ _ _ hone' bl hkk hp =>
        rw [hk'] at hkk; cases hkk
        rcases hp with hf | ⟨t'', sz'', es'', heq, hle, hyv⟩
        · simp [Blk.fixed] at hf
        · cases heq
          obtain ⟨hoff, hy⟩ := hyv hver
          subst hy
          simp only [Nat.zero_mul, Nat.zero_add, Nat.sub_zero] at hoff hyy ⊢
          obtain ⟨b1, b2, b3, b4, b5, b6, cur, b7, b8, b9, b10⟩ := h1.blk k _ hk'
          by_cases hnil : ys = []
          · subst hnil
            have hsame : cx.H.set k (.row e sz es) = cx.H := by
              apply List.ext_getElem?
              intro i
              by_cases hi' : k = i
              · subst hi'; rw [set_some hk', hk']
              · rw [set_other hi']
            simp only [List.length_nil, Nat.add_zero, List.append_nil, List.take_append_drop] at h
            have hK : K (.hs k 0 n ver) (H.set k (.row e sz es)) := by rcases h with ⟨_, h⟩ | ⟨_, h⟩ <;> exact h
            refine ⟨cx, .hs k 0 n ver, .slice (some ⟨cx.κ k, 0, none⟩) n (cx.γ k), ?_, h1, Le.refl _, .hs k 0 n ver _ rfl _ hk' (.inr ⟨e, sz, es, rfl, hle, fun _ => ⟨by omega, by simp⟩⟩), ?_⟩
            · simp only [List.length_nil, run_append_none hs o.type (some ⟨cx.κ k, 0, none⟩) ax n (cx.γ k) cxp (by omega) cx.w (fun b hb => by cases hb; rfl), Result.andThen_ok]
            · rw [← h2, hsame] at hK; exact hK
          · rcases hsrc with hn | ⟨b, off, vals, rfl, hrv, hcell, hone, hyl, hz0, _⟩
            · exact absurd hn hnil
            have hpos : 0 < ys.length := List.length_pos_iff.2 hnil
            have hvl : vals.length = ys.length * sz := by rw [← hrv.len, flatten_len _ _ hyl]
            have hcap2 : es.length * sz ≤ cx.γ k * sz := Nat.mul_le_mul_right _ b5
            by_cases hroom : n + ys.length ≤ cx.γ k
            · have hfit : (n + ys.length) * sz ≤ cx.γ k * sz := Nat.mul_le_mul_right _ hroom
              rw [Nat.add_mul] at hfit
              have hr := run_append_room (P := P) cx.w t o.type e ie hu hi (cx.κ k) n (cx.γ k) cur.toArray b7 ⟨b, off, none⟩ ys.length cxp vals (by rw [his]; exact hvl) (fun j v hv => by rw [Addr.add_lit]; exact hcell j v hv) hone hroom
                (by rw [his, hvl]; simp [b8]; omega)
              have hspl : (cur.toArray.toList.take (n * ie.size) ++ vals ++ cur.toArray.toList.drop (n * ie.size + vals.length)) = spl cur (n * sz) vals := by rw [his]; rfl
              rw [hspl] at hr
              have hsl : (spl cur (n * sz) vals).length = cx.γ k * sz := by rw [spl_length _ _ _ (by rw [hvl, b8]; omega), b8]
              rcases h with ⟨⟨hnv, _, _⟩, hK⟩ | ⟨hnv, hK⟩
              · have hne : n = es.length := by omega
                obtain ⟨c1, c2⟩ := put_row (es' := es ++ ys) (vals' := spl cur (n * sz) vals) h1 hk' (mem_app b4 hyl) (by simp) (by simp; omega) hsl (by
                    have e1 : (spl cur (n * sz) vals).take ((es ++ ys).length * sz) = cur.take (es.length * sz) ++ vals := by
                      unfold spl
                      rw [List.length_append, Nat.add_mul, ← hvl, hne, List.append_assoc, List.take_append, List.take_of_length_le (by simp; omega)]
                      congr 1
                      rw [List.length_take, Nat.min_eq_left (by omega), Nat.add_sub_cancel_left, List.take_append_of_le_length (Nat.le_refl _), List.take_length]
                    rw [e1, List.flatten_append]
                    exact b9.append hrv) (spl_mem b10 hone)
                refine ⟨_, .hs k 0 (n + ys.length) (ver + ys.length), .slice (some ⟨cx.κ k, 0, none⟩) (n + ys.length) (cx.γ k), ?_, c2, c1, ?_, ?_⟩
                · rw [hr]; rfl
                · exact .hs k 0 _ _ _ rfl _ (set_some hk' _) (.inr ⟨e, sz, es ++ ys, rfl, by simp; omega, fun _ => ⟨by omega, by simp [Cx.put]⟩⟩)
                · show K _ (cx.H.set k _); rw [h2]; exact hK
              · have hl3 : (es.take n ++ ys ++ es.drop (n + ys.length)).length = es.length := by simp; omega
                obtain ⟨c1, c2⟩ := put_row (es' := es.take n ++ ys ++ es.drop (n + ys.length)) (vals' := spl cur (n * sz) vals) h1 hk' (fun e' he' => by
                    rcases List.mem_append.1 he' with hm | hm
                    · rcases List.mem_append.1 hm with hm | hm
                      · exact b4 _ (List.mem_of_mem_take hm)
                      · exact hyl _ hm
                    · exact b4 _ (List.mem_of_mem_drop hm)) (by rw [hl3]; omega) (by rw [hl3]; exact b5) hsl (by
                    rw [hl3, spl_take _ _ _ _ (by rw [hvl, ← Nat.add_mul]; exact Nat.mul_le_mul_right _ (by omega)) (by rw [b8]; exact hcap2)]
                    rw [List.flatten_append, List.flatten_append, flatten_take _ sz _ b4, flatten_drop _ sz _ b4]
                    have := b9.spl (n * sz) hrv
                    have e2 : spl es.flatten (n * sz) ys.flatten = es.flatten.take (n * sz) ++ ys.flatten ++ es.flatten.drop ((n + ys.length) * sz) := by
                      unfold spl
                      rw [flatten_len _ _ hyl, Nat.add_mul]
                    rw [← e2]; exact this) (spl_mem b10 hone)
                refine ⟨_, .hs k 0 (n + ys.length) ver, .slice (some ⟨cx.κ k, 0, none⟩) (n + ys.length) (cx.γ k), ?_, c2, c1, ?_, ?_⟩
                · rw [hr]; rfl
                · exact .hs k 0 _ _ _ rfl _ (set_some hk' _) (.inr ⟨e, sz, _, rfl, by rw [hl3]; omega, fun _ => ⟨by omega, by simp [Cx.put]⟩⟩)
                · show K _ (cx.H.set k _); rw [h2]; exact hK
            · rcases h with ⟨⟨hnv, hb, h63⟩, hK⟩ | ⟨hnv, hK⟩
              · simp only at hb h63
                have hne : n = es.length := by omega
                have holds : ∀ (j : Nat) v, (cur.take (n * sz))[j]? = some v → cx.w.cell? ((⟨cx.κ k, 0, none⟩ : Addr).add j) = some v := fun j v hj => by
                  rw [Addr.add_lit, cell_of_row _ _ _ _ _ _ b7]
                  rw [List.getElem?_take] at hj
                  split at hj
                  · simpa using hj
                  · cases hj
                have hcl : (cur.take (n * sz)).length = n * sz := by rw [List.length_take, b8]; exact Nat.min_eq_left (by rw [hne]; exact hcap2)
                have hr := run_append_grow (P := P) cx.w t o.type e ie z hu hi hz ⟨cx.κ k, 0, none⟩ n (cx.γ k) (cur.take (n * sz)) (by rw [his]; exact hcl) holds ⟨b, off, none⟩ ys.length cxp vals (by rw [his]; exact hvl)
                  (fun j v hv => by rw [Addr.add_lit]; exact hcell j v hv) (by omega) (by omega) (growslice_fits (by omega) (by rw [hby]; exact hb))
                have hge := grownCap_ge cx.w (n + ys.length) (cx.γ k) e
                have hcm : grownCap cx.w (n + ys.length) (cx.γ k) e ≤ maxLen := grownCap_le_maxLen cx.w (n + ys.length) (cx.γ k) e (by unfold maxLen; omega)
                generalize grownCap cx.w (n + ys.length) (cx.γ k) e = g at hr hge hcm
                obtain ⟨c1, c2⟩ := regrow_row (es' := es ++ ys) (g := g) (vals' := cur.take (n * sz) ++ vals ++ zeroCellsL z (g - (n + ys.length))) h1 hk' (mem_app b4 hyl)
                  (by simp; omega) (by simp; omega) hcm (by rw [List.length_append, List.length_append, hcl, hvl, zeroCellsL_len hzs, ← Nat.add_mul, ← Nat.add_mul]; congr 1; omega) (by
                    have e1 : (cur.take (n * sz) ++ vals ++ zeroCellsL z (g - (n + ys.length))).take ((es ++ ys).length * sz) = cur.take (es.length * sz) ++ vals := by
                      rw [List.length_append, Nat.add_mul, ← hvl, ← hne, List.take_append_of_le_length (by rw [List.length_append, hcl]; exact Nat.le_refl _), List.take_of_length_le (by rw [List.length_append, hcl]; exact Nat.le_refl _)]
                    rw [e1, List.flatten_append]
                    exact b9.append hrv) (fun x hx => by
                    rcases List.mem_append.1 hx with hx | hx
                    · rcases List.mem_append.1 hx with hx | hx
                      · exact b10 x (List.mem_of_mem_take hx)
                      · exact hone x hx
                    · exact zeroCells_one hzone (by omega) _ x hx)
                refine ⟨_, .hs k 0 (n + ys.length) (ver + ys.length), .slice (some ⟨cx.w.heap.size, 0, none⟩) (n + ys.length) g, ?_, c2, c1, ?_, ?_⟩
                · rw [hr]
                  simp only [Result.andThen_ok, Cx.regrow]
                  congr 3
                  simp [zeroCellsL]
                · have e1 : (Cx.regrow cx k (.cells (cur.take (n * sz) ++ vals ++ zeroCellsL z (g - (n + ys.length))).toArray e (0, 0)) (.row e sz (es ++ ys)) g).κ k = cx.w.heap.size := updN_same _ _ _
                  have e2 : (Cx.regrow cx k (.cells (cur.take (n * sz) ++ vals ++ zeroCellsL z (g - (n + ys.length))).toArray e (0, 0)) (.row e sz (es ++ ys)) g).γ k = g := updN_same _ _ _
                  refine .hs k 0 _ _ _ rfl _ (set_some hk' _) (.inr ⟨e, sz, es ++ ys, rfl, by simp; omega, fun _ => ⟨by omega, ?_⟩⟩)
                  rw [e1, e2]; simp
                · show K _ (cx.H.set k _); rw [h2]; exact hK
              · exact absurd hnv (by omega)
    · exact h.elim
  · exact h.elim

/-- Appended to nothing, and never written again. -/
theorem sound_append_fz {s x : Operand} {t : TypeId} (ho : o.op = .call { callee := .builtin .append, args := #[s, x], argTypes := #[t, t] })
    (h : bindO (slbOf P t) fun sl => match ρ s, ρ x with
      | .v (.slice none 0 0), .vs sz ys => andV (sz = sl.2.1) (andV (ys.length * sl.2.2.2 ≤ 140737488355328 ∧ ys.length ≤ 9223372036854775807) (K (.vs sz ys) H))
      | _, _ => False) : OpSem P o ρ H K pan := by
  obtain ⟨⟨e, sz, zc, by_⟩, hs, h⟩ := h
  obtain ⟨ie, z, hu, hi, hz, hzs, his, h0, hzc, hby⟩ := slbOf_spec hs
  refine opsem_val fun B w0 cx ρc h1 h2 h3 => ?_
  have hsr := h3 s (by simp [Op.operands, Call.operands, ho])
  have hxr := h3 x (by simp [Op.operands, Call.operands, ho])
  rw [exec_append ho]
  split at h
  · rename_i sz' ys es' ex'
    obtain ⟨hszz, ⟨hb, h63⟩, hK⟩ := h
    have hz2 : sz = sz' := hszz.symm
    subst hz2
    rw [es'] at hsr
    rw [hsr.v_inv]
    obtain ⟨ax, cxp, hyx, hlc, hsrc⟩ := src_rep (sz := sz) h1 (x := ρ x) (ys := ys) (by simp [srcEs, ex']) hxr
    rw [hyx]
    by_cases hnil : ys = []
    · subst hnil
      refine ⟨cx, .vs sz [], .slice none 0 0, ?_, h1, Le.refl _, .vs0 _ _ _, h2 ▸ hK⟩
      simp only [List.length_nil, run_append_none hs o.type none ax 0 0 cxp (Nat.le_refl _) cx.w (fun b hb => by cases hb), Result.andThen_ok]
    · rcases hsrc with hn | ⟨b, off, vals, rfl, hrv, hcell, hone, hyl, hz0, hstr⟩
      · exact absurd hn hnil
      · have hpos : 0 < ys.length := List.length_pos_iff.2 hnil
        have hvl : vals.length = ys.length * sz := by rw [← hrv.len, flatten_len _ _ hyl]
        simp only at hb h63
        have hr := run_append_nil (P := P) cx.w t o.type e ie z hu hi hz ⟨b, off, none⟩ ys.length cxp vals (by rw [his]; exact hvl) (fun j v hv => by rw [Addr.add_lit]; exact hcell j v hv) hpos (by omega) (by rw [hby]; omega)
        have hge := grownCap_ge cx.w ys.length 0 e
        generalize grownCap cx.w ys.length 0 e = g at hr hge
        refine ⟨cx.drew.frozen (.cells (vals ++ zeroCellsL z (g - ys.length)).toArray e (0, 0)), .vs sz ys, .slice (some ⟨cx.w.heap.size, 0, none⟩) ys.length g, ?_, hrel_frozen (hrel_drew h1) _, (le_drew cx).trans (le_frozen _ _), ?_, h2 ▸ hK⟩
        · rw [hr]
          simp only [Result.andThen_ok, Cx.frozen, Cx.drew]
          congr 3
          simp [zeroCellsL]
        · have hst := (hstr ⟨_, _, ex'⟩).mono ((le_drew cx).trans (le_frozen cx.drew (.cells (vals ++ zeroCellsL z (g - ys.length)).toArray e (0, 0))))
          refine .vs sz ys cx.w.heap.size 0 g vals (.inr rfl) h0 hge hyl hst.len hone (fun j x hx => ?_) hst.rep
          have hnew : (cx.w.drew.alloc (.cells (vals ++ zeroCellsL z (g - ys.length)).toArray e (0, 0))).heap[cx.w.heap.size]? = _ := heap_alloc_new cx.w.drew _
          show (cx.w.drew.alloc _).cell? _ = _
          rw [cell_of_row _ _ _ _ _ _ hnew]
          simp only [Nat.zero_add, List.getElem?_toArray]
          rw [List.getElem?_append_left (List.getElem?_eq_some_iff.1 hx).1]; exact hx
  · exact h.elim

end
end Go.Mu
