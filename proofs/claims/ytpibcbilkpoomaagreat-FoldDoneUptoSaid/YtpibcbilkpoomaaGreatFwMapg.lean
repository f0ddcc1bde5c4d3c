/- Maps with gaps: from maps that have none; the library's maps.DeleteFunc, by the kit's contract, over a map of the call's own from names to numbers. -/
import Derived.Test.YtpibcbilkpoomaaGreatFwQtoFwT
import Derived.Shelf.SlMaps.DeleteFunc
set_option linter.unusedVariables false
set_option linter.unusedSimpArgs false
namespace Go.Mu
open Go.RowKit (Below)
open Go.Proofs Go.Shelf Go.Maps
open Go.WideElems (Fit rd rg pl rd_key rd_val rg_of rd_mk)
theorem hrel_gap {B : Nat} {w0 : World} {cx : Cx} (h : HRel B w0 cx) {k : Nat} {es : List (Value × AV)} (hk : cx.H[k]? = some (.map es)) : HRel B w0 (cx.put k cx.w (.mapg es)) ∧ Le cx (cx.put k cx.w (.mapg es)) := by
  obtain ⟨b1, b2, ents, b3, b4, b5⟩ := h.blk k _ hk
  have hle := le_put (cx := cx) (bl := .mapg es) (w' := cx.w) hk (fun i _ _ => rfl) b2 (.inl ⟨rfl, rfl⟩)
  have hborn : ents.map (·.born) = List.range ents.length := by
    apply List.ext_getElem?
    intro j
    rw [List.getElem?_map]
    by_cases hj : j < ents.length
    · rw [List.getElem?_eq_getElem hj, List.getElem?_range hj]
      have := (b5 j _ _ (List.getElem?_eq_getElem (by omega)) (List.getElem?_eq_getElem hj)).2.2
      simp [this]
    · rw [List.getElem?_eq_none (by omega), List.getElem?_eq_none (by simp; omega)]; rfl
  refine ⟨hrel_put h hk rfl (Below.refl _ _) (fun i _ _ => rfl) hle ⟨b1, b2, ents, ents.length, b3, b4, fun j p e a b => ?_, fun x hx => ?_, ?_⟩, hle⟩
  · obtain ⟨q1, q2, _⟩ := b5 j p e a b
    exact ⟨q1, q2.mono hle⟩
  · have : x.born ∈ ents.map (·.born) := List.mem_map_of_mem hx
    rw [hborn, List.mem_range] at this; exact this
  · rw [hborn]; exact List.nodup_range
theorem acalls_gap {P : Program} {g : FuncId} {pre post : List AV} {k : Nat} {es : List (Value × AV)} {H : List Blk} {R : AE → List Blk → Prop} (hk : H[k]? = some (.map es))
    (h : ACalls P g (pre ++ .hg k :: post) (H.set k (.mapg es)) R) : ACalls P g (pre ++ .hm k :: post) H R := by
  intro B w0 cx vals hR hH hA
  subst hH
  obtain ⟨p1, p2⟩ := hrel_gap hR hk
  have hA' : RepL (cx.put k cx.w (.mapg es)) false (pre ++ .hg k :: post) vals := by
    refine ⟨by have := hA.len; simpa using this, fun j c x h1 h2 => ?_⟩
    have hlen : (pre ++ AV.hm k :: post).length = (pre ++ AV.hg k :: post).length := by simp
    by_cases hj : j = pre.length
    · subst hj
      rw [List.getElem?_append_right (Nat.le_refl _), Nat.sub_self] at h1
      simp only [List.getElem?_cons_zero, Option.some.injEq] at h1
      subst h1
      have := hA.rep pre.length (.hm k) x (by rw [List.getElem?_append_right (Nat.le_refl _), Nat.sub_self]; rfl) h2
      have := this.mono p2
      cases this with
      | hm _ bl hk' hf => exact .hg k bl hk' hf
    · refine (hA.rep j c x ?_ h2).mono p2
      rw [← h1]
      by_cases hlt : j < pre.length
      · rw [List.getElem?_append_left hlt, List.getElem?_append_left hlt]
      · rw [List.getElem?_append_right (by omega), List.getElem?_append_right (by omega)]
        obtain ⟨i, hi⟩ : ∃ i, j - pre.length = i + 1 := ⟨j - pre.length - 1, by omega⟩
        rw [hi]; rfl
  refine (h B w0 _ vals p1 rfl hA').mono fun e w' he => ?_
  cases e with
  | returned y => obtain ⟨cx', r, a1, a2, a3, a4, a5⟩ := he; exact ⟨cx', r, a1, a2, p2.trans a3, a4, a5⟩
  | panicked ch => obtain ⟨cx', x, y, a1, a2, a3, a4, a5, a6⟩ := he; exact ⟨cx', x, y, a1, a2, p2.trans a3, a4, a5, a6⟩
  | outgrown => exact he
abbrev nuM (t : List (ByteArray × Int)) : List (Value × AV) := t.map fun x => (.string x.1, .v (.int .u64 x.2))
def RU : Value → Option (DataW Unit × List MemPlace)
  | .int .u64 a => some (.lit (.int .u64 a), [])
  | _ => none
def rdN (x : ByteArray × Int) : Lit × DataW Unit := (.string x.1.data.toList, .lit (.int .u64 x.2))
def valOf (e : MapEntry) : ByteArray × Int := (match e.key with | .string s => s | _ => ByteArray.empty, match e.val with | .int _ a => a | _ => 0)
theorem ba_of_list {a b : ByteArray} (h : a.data.toList = b.data.toList) : a = b := by
  cases a; cases b
  simp only [Array.toList_inj] at h
  rw [h]
theorem rdN_inj {x y : ByteArray × Int} (h : rdN x = rdN y) : x = y := by
  unfold rdN at h
  simp only [Prod.mk.injEq, Lit.string.injEq, DataW.lit.injEq, Lit.int.injEq, true_and] at h
  exact Prod.ext (ba_of_list h.1) h.2
section
variable {P : Program} {ρ : Ren}
theorem ents_nu {cx : Cx} {t : List (ByteArray × Int)} {ents : List MapEntry} (hl : (nuM t).length = ents.length) (hr : ∀ (j : Nat) p e, (nuM t)[j]? = some p → ents[j]? = some e → p.1 = e.key ∧ Rep cx false p.2 e.val) :
    (∀ e ∈ ents, ∃ x ∈ t, e.key = .string x.1 ∧ e.val = .int .u64 x.2) ∧ ents.map valOf = t := by
  have key : ∀ (j : Nat) (e : MapEntry), ents[j]? = some e → ∃ x, t[j]? = some x ∧ e.key = .string x.1 ∧ e.val = .int .u64 x.2 := by
    intro j e he
    have hj : j < t.length := by have := (List.getElem?_eq_some_iff.1 he).1; simp at hl; omega
    obtain ⟨h1, h2⟩ := hr j (.string t[j].1, .v (.int .u64 t[j].2)) e (by simp [nuM, List.getElem?_eq_getElem hj]) he
    exact ⟨t[j], List.getElem?_eq_getElem hj, h1.symm, h2.v_inv⟩
  refine ⟨fun e he => ?_, ?_⟩
  · obtain ⟨j, hj⟩ := List.getElem?_of_mem he
    obtain ⟨x, h1, h2⟩ := key j e hj
    exact ⟨x, List.mem_of_getElem? h1, h2⟩
  · apply List.ext_getElem?
    intro j
    rw [List.getElem?_map]
    cases he : ents[j]? with
    | none =>
      rw [List.getElem?_eq_none_iff] at he
      rw [List.getElem?_eq_none (by simp at hl; omega)]; rfl
    | some e =>
      obtain ⟨x, h1, h2, h3⟩ := key j e he
      rw [h1]
      simp [valOf, h2, h3]
theorem rd_nu {k : TypeId} (hk : P.underlying k = some .string) {e : MapEntry} {x : ByteArray × Int} (h1 : e.key = .string x.1) (h2 : e.val = .int .u64 x.2) (hs : x.1.size ≤ maxLen) : rd P k RU e = some (rdN x) := by
  unfold rd
  rw [h1, h2, WideMaps.keyOf_string_mk hk hs]
  rfl
theorem rd_nu_inv {k : TypeId} (hk : P.underlying k = some .string) {e : MapEntry} {y : Lit × DataW Unit} (h : rd P k RU e = some y) : e.key = .string (valOf e).1 ∧ e.val = .int .u64 (valOf e).2 ∧ y = rdN (valOf e) ∧ (valOf e).1.size ≤ maxLen := by
  obtain ⟨z, hz, hy⟩ := rd_val h
  have hkey := rd_key h
  obtain ⟨s, hs, hl, hsz⟩ := WideMaps.string_of_keyOf hk hkey
  obtain ⟨key, val, born⟩ := e
  simp only at hs hz hkey
  subst hs
  unfold RU at hz
  split at hz
  · rename_i a
    simp only [Option.some.injEq] at hz
    subst hz
    refine ⟨rfl, rfl, Prod.ext hl hy, hsz⟩
  · cases hz
def FindU (u : ByteArray → Option Int) (ents : List MapEntry) : Prop :=
  ∀ n, (u n = none ∧ Instr.findNow .string (.string n) ents 0 = some none) ∨ ∃ a i, u n = some a ∧ Instr.findNow .string (.string n) ents 0 = some (some (i, .int .u64 a))
theorem findU_of {cx : Cx} {ut : List (ByteArray × Int)} {u : ByteArray → Option Int} {ents : List MapEntry} (hl : (nuM ut).length = ents.length) (hr : ∀ (j : Nat) p e, (nuM ut)[j]? = some p → ents[j]? = some e → p.1 = e.key ∧ Rep cx false p.2 e.val)
    (hu : ∀ n, mfind .string (.string n) (nuM ut) = some ((u n).map fun a => .v (.int .u64 a))) : FindU u ents := by
  intro n
  rcases find_rep 0 hl hr (hu n) with ⟨h1, h2⟩ | ⟨x, v, i, h1, h2, h3⟩
  · left
    cases hun : u n with
    | none => exact ⟨rfl, h2⟩
    | some a => rw [hun] at h1; cases h1
  · right
    cases hun : u n with
    | none => rw [hun] at h1; cases h1
    | some a =>
      rw [hun] at h1; cases h1
      have := h3.v_inv
      subst this
      exact ⟨a, i, rfl, h2⟩
def DelCl (P : Program) (g : FuncId) (T : TypeId) (u : ByteArray → Option Int) : Prop :=
  ∀ (W : World) (n : ByteArray) (x : Int) (bj bk : Nat) (ents : List MapEntry) (c : Nat), W.heap[bj]? = some (.cells #[.map (some bk)] T (0, 0)) → W.heap[bk]? = some (.map ents.toArray c) → FindU u ents →
    Calls P g #[.string n, .int .u64 x, .pointer (some ⟨bj, 0, none⟩)] W fun e w' => e = .returned (.bool (decide (u n ≠ some x))) ∧ W.grownBy w' none
theorem acalls_deleteFunc (L : SlLaysDf.n5 P ρ) (hkt : P.underlying (ρ.t 26) = some .string) {g : FuncId} (eg : ∀ args w, (callFunc g args).run P w = .ok (.enter g args) w) {T : TypeId} {u : ByteArray → Option Int} (hc : DelCl P g T u)
    {H : List Blk} {ka jb kb : Nat} {t ut : List (ByteArray × Int)} (h1 : ka ≠ jb) (h2 : ka ≠ kb) (hka : H[ka]? = some (.mapg (nuM t))) (hjb : H[jb]? = some (.box T [.hg kb])) (hkb : H[kb]? = some (.mapg (nuM ut)))
    (hu : ∀ n, mfind .string (.string n) (nuM ut) = some ((u n).map fun a => .v (.int .u64 a))) (hn : (t.map (·.1)).Nodup) (hs : ∀ x ∈ t, x.1.size ≤ maxLen) (hl : t.length ≤ maxLen) :
    ACalls P (ρ.f 5) [.hg ka, .fn (.func g) [] [.bp jb 0]] H (fun e H' => e = .ret (.tup []) ∧ ∃ t' : List (ByteArray × Int), H' = H.set ka (.mapg (nuM t')) ∧ (t'.map (·.1)).Nodup ∧ ∀ x, x ∈ t' ↔ x ∈ t ∧ u x.1 = some x.2) := by
  intro B w0 cx vals hR hH hA
  subst hH
  obtain ⟨v1, vs1, rfl, r1, hA1⟩ := hA.cons_inv
  obtain ⟨v2, vs2, rfl, r2, hA2⟩ := hA1.cons_inv
  obtain rfl := hA2.nil_inv
  obtain ⟨b1, b2, ents, clock, b3, b4, b5, b6, b7⟩ := hR.blk ka _ hka
  obtain ⟨d1, d2, cells, d3, d4⟩ := hR.blk jb _ hjb
  obtain ⟨f1, f2, uents, uc, f3, f4, f5, f6, f7⟩ := hR.blk kb _ hkb
  have hv1 : v1 = .map (some (cx.κ ka)) := by cases r1; rfl
  have hcells : cells = [.map (some (cx.κ kb))] := by
    obtain ⟨x, xs, rfl, hx, hxs⟩ := d4.cons_inv
    obtain rfl := hxs.nil_inv
    cases hx; rfl
  subst hcells
  have hv2 : v2 = .func (.func g) #[] #[.pointer (some ⟨cx.κ jb, 0, none⟩)] := by
    cases r2 with
    | fn f fs cs vf vc hnf hrf hnc hrc =>
      have e1 : vf = [] := List.eq_nil_of_length_eq_zero (by simpa using hnf.symm)
      subst e1
      obtain ⟨x, xs, rfl, hx, hxs⟩ := RepL.cons_inv (cx := cx) (z := false) (c := .bp jb 0) (cs := []) (vals := vc) ⟨hnc, hrc⟩
      obtain rfl := hxs.nil_inv
      cases hx; rfl
  subst hv1 hv2
  have n1 : cx.κ ka ≠ cx.κ jb := fun e => h1 (hR.inj ka jb _ _ hka hjb rfl rfl e)
  have n2 : cx.κ ka ≠ cx.κ kb := fun e => h2 (hR.inj ka kb _ _ hka hkb rfl rfl e)
  obtain ⟨g1, g2⟩ := ents_nu b4 b5
  have hFU : FindU u uents := findU_of f4 f5 hu
  have hlen : ents.length = t.length := by simpa using b4.symm
  have hread : ∀ e ∈ ents, ∃ x ∈ t, rd P (ρ.t 26) RU e = some (rdN x) := fun e he => by
    obtain ⟨x, hx, e1, e2⟩ := g1 e he
    exact ⟨x, hx, rd_nu hkt e1 e2 (hs x hx)⟩
  have hrg : ents.map (rg P (ρ.t 26) RU) = t.map rdN := by
    have e0 : t.map rdN = (ents.map valOf).map rdN := by rw [g2]
    rw [e0, List.map_map]
    refine List.map_congr_left fun e he => ?_
    obtain ⟨x, hx, e1⟩ := hread e he
    rw [rg_of e1]
    exact (rd_nu_inv hkt e1).2.2.1
  have hkeys : (ents.map (·.key)).Nodup := by
    have e : (ents.map (·.key)) = (t.map (·.1)).map Value.string := by
      rw [← g2, List.map_map, List.map_map]
      refine List.map_congr_left fun e he => ?_
      obtain ⟨x, hx, e1⟩ := hread e he
      exact (rd_nu_inv hkt e1).1
    rw [e]
    exact List.Pairwise.map _ (fun a b h e => h (by cases e; rfl)) hn
  have hFit : Fit P (ρ.t 26) RU ents.toArray clock := ⟨by simpa [hlen] using hl, ⟨by simpa using b6, by simpa using b7, by simpa using hkeys⟩, fun x hx => by
    obtain ⟨y, _, hy⟩ := hread x (by simpa using hx); exact ⟨_, hy⟩⟩
  have hown : cx.w.ownsMap P (ρ.t 26) RU (cx.κ ka) t.length (.map ((ents.map (rg P (ρ.t 26) RU)).foldr DataW.insert [])) := ⟨ents.toArray, clock, b3, hFit, by simp [hlen], by simp⟩
  obtain ⟨pd, hpd⟩ : ∃ pd : Lit → DataW Unit → Bool, ∀ x : ByteArray × Int, pd (rdN x).1 (rdN x).2 = decide (u x.1 ≠ some x.2) := by
    refine ⟨fun l d => match l, d with | .string s, .lit (.int .u64 a) => decide (u ⟨s.toArray⟩ ≠ some a) | _, _ => false, fun x => ?_⟩
    simp only [rdN]
  have hdel : ∀ (W : World) (key val : Value) (kl : Lit) (yd : DataW Unit) (yp : List MemPlace), cx.w.grownBy W (some (cx.κ ka)) → keyOf P (ρ.t 26) key = some kl → RU val = some (yd, yp) →
      Calls P g (#[key, val] ++ #[.pointer (some ⟨cx.κ jb, 0, none⟩)]) W fun e w' => e = .returned (.bool (pd kl yd)) ∧ W.grownBy w' none := by
    intro W key val kl yd yp hg hkey hval
    obtain ⟨s, rfl, rfl, hsz⟩ := WideMaps.string_of_keyOf hkt hkey
    have hy : ∃ a, val = .int .u64 a ∧ yd = .lit (.int .u64 a) := by
      unfold RU at hval
      split at hval
      · rename_i a; simp only [Option.some.injEq, Prod.mk.injEq] at hval; exact ⟨a, rfl, hval.1.symm⟩
      · cases hval
    obtain ⟨a, rfl, rfl⟩ := hy
    have := hc W s a (cx.κ jb) (cx.κ kb) uents uc ?_ ?_ hFU
    · have e := hpd (s, a)
      simp only [rdN] at e
      rw [e]
      exact this
    · exact (hg.block _ (Array.getElem?_eq_some_iff.1 d3).1 (by simpa using Ne.symm n1)).trans d3
    · exact (hg.block _ (Array.getElem?_eq_some_iff.1 f3).1 (by simpa using Ne.symm n2)).trans f3
  refine (AnyDf.maps_DeleteFunc L (string_keyed hkt) RU pd g _ (cx.κ ka) t.length _ cx.w eg hown hdel).mono ?_
  rintro e w' ⟨rfl, hown', hgr⟩
  obtain ⟨es', clock', q1, q2, q3, q4⟩ := hown'
  obtain ⟨t', ht'⟩ : ∃ t', t' = es'.toList.map valOf := ⟨_, rfl⟩
  have hinv : ∀ e ∈ es'.toList, e.key = .string (valOf e).1 ∧ e.val = .int .u64 (valOf e).2 ∧ rg P (ρ.t 26) RU e = rdN (valOf e) := fun e he => by
    obtain ⟨y, hy⟩ := q2.reads e he
    obtain ⟨i1, i2, i3, _⟩ := rd_nu_inv hkt hy
    exact ⟨i1, i2, by rw [rg_of hy, i3]⟩
  have hrg' : es'.toList.map (rg P (ρ.t 26) RU) = t'.map rdN := by
    rw [ht', List.map_map]
    exact List.map_congr_left fun e he => (hinv e he).2.2
  have hmem : ∀ x, x ∈ t' ↔ x ∈ t ∧ u x.1 = some x.2 := by
    intro x
    have e1 : x ∈ t' ↔ rdN x ∈ t'.map rdN := ⟨fun h => List.mem_map_of_mem h, fun h => by obtain ⟨y, hy, e⟩ := List.mem_map.1 h; rw [← rdN_inj e]; exact hy⟩
    have e2 : x ∈ t ↔ rdN x ∈ t.map rdN := ⟨fun h => List.mem_map_of_mem h, fun h => by obtain ⟨y, hy, e⟩ := List.mem_map.1 h; rw [← rdN_inj e]; exact hy⟩
    simp only [Lib.deleteFuncD, DataW.map.injEq] at q4
    rw [e1, e2, ← hrg', ← hrg, ← (WideShapes.sorted_perm (es'.toList.map _)).mem_iff, ← q4, List.mem_filter, (WideShapes.sorted_perm (ents.map _)).mem_iff, hpd]
    simp
  have hw : ∀ i, i ≠ cx.κ ka → i < cx.w.heap.size → w'.heap[i]? = cx.w.heap[i]? := fun i hi hlt => hgr.block i hlt (by simpa using hi)
  have hle := le_put (cx := cx) (bl := .mapg (nuM t')) (w' := w') hka hw b2 (.inl ⟨rfl, rfl⟩)
  have hlt : cx.κ ka < cx.w.heap.size := (Array.getElem?_eq_some_iff.1 b3).1
  have hbel : Below B cx.w w' := ⟨hgr.os, hgr.tape, hgr.output, hgr.size, fun i hi => hw i (by omega) (by have := hR.base; omega)⟩
  refine ⟨cx.put ka w' (.mapg (nuM t')), .tup [], rfl, hrel_put hR hka rfl hbel hw hle ⟨b1, b2, es'.toList, clock', by rw [Array.toArray_toList]; exact q1, by simp [nuM, ht'], fun j p e a b => ?_, q2.stamped.1, q2.stamped.2.1⟩, hle, .tup [] [] rfl (fun j c x a b => by simp at a), rfl, t', rfl, ?_, hmem⟩
  · have he := hinv e (List.mem_of_getElem? b)
    simp only [nuM, ht', List.map_map, List.getElem?_map, b, Option.map_some, Option.some.injEq] at a
    subst a
    refine ⟨he.1.symm, ?_⟩
    simp only [Function.comp]
    rw [he.2.1]
    exact .v _
  · have := q2.stamped.2.2
    have e : (es'.toList.map (·.key)) = (t'.map (·.1)).map Value.string := by
      rw [ht', List.map_map, List.map_map]
      exact List.map_congr_left fun e he => (hinv e he).1
    rw [e, List.Nodup, List.pairwise_map] at this
    exact this.imp fun h e => h (by rw [e])
end
end Go.Mu
