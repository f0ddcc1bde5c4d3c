/- Operations over abstract values, one by one (6): slices of slices, make, an index, an assertion, maps. -/
import Derived.Test.YtganjkhdlehhdaaGreatFwGtoFwH
import Derived.Laws.BytesArg
import Derived.WalkSpells
import Derived.Laws.IdiomStrings
set_option linter.unusedVariables false
set_option linter.unusedSimpArgs false
namespace Go.Mu
open Go.RowKit (Below)
def arOf (P : Program) (t : TypeId) : Option (Nat × TypeId) := match P.underlying t with | some (.array n e) => some (n, e) | _ => none
def idxA (H : List Blk) (len sz : Nat) (x : AV) (i : Int) (k : AV → Prop) : Prop :=
  match x with
  | .bp h off => andV (0 ≤ i ∧ i < len) (k (.bp h (off + i.toNat * sz)))
  | .vp cs => andV (0 ≤ i ∧ i < len) (k (.vp (cs.drop (i.toNat * sz))))
  | .rp h ver j off => bindO (cellsAt H (.rp h ver j off)) fun _ => andV (0 ≤ i ∧ i < len) (k (.rp h ver j (off + i.toNat * sz)))
  | _ => False
section
variable {P : Program} {o : Oper} {ρ : Operand → AV} {H : List Blk} {K pan : AV → List Blk → Prop}
theorem sound_indexAddrA {t : TypeId} {x i : Operand} (ho : o.op = .indexAddr t x i)
    (h : bindO (arOf P t) fun ar => bindO (szOf P ar.2) fun sz => bindO (intA (ρ i)) fun n => idxA H ar.1 sz (ρ x) n fun r => K r H) : OpSem P o ρ H K pan := by
  obtain ⟨⟨len, e⟩, he, sz, hz, n, hn, h⟩ := h
  have hu : P.underlying t = some (.array len e) := by
    unfold arOf at he; split at he
    · rename_i n' e' hu; cases he; exact hu
    · cases he
  refine opsem_same fun cx ρc B w0 h1 h2 h3 => ?_
  have hx := h3 x (by simp [Op.operands, ho])
  have hi := h3 i (by simp [Op.operands, ho])
  obtain ⟨k, hk⟩ := intA_spec hn
  rw [hk] at hi
  have hi' := hi.v_inv
  have run : ∀ b off, 0 ≤ n → n < len → (Instr.indexAt t (.pointer (some ⟨b, off, none⟩)) (.int k n)).run P cx.w = .ok (.pointer (some ⟨b, off + n.toNat * sz, none⟩)) cx.w := fun b off h0 h1 => by
    simp [Instr.indexAt, asIntOf, run_underlying hu, Instr.sureAddr, h0, h1, run_sizeOf hz, Addr.add_lit]
  unfold idxA at h
  split at h
  · rename_i h' off e'
    obtain ⟨⟨h0, hl⟩, hK⟩ := h
    rw [e'] at hx
    generalize hy : ρc x = y at hx
    cases hx with
    | bp _ _ bl hk' hf => exact ⟨_, _, by simp [execOp, ho, hy, hi', run _ _ h0 hl], .bp h' _ bl hk' hf, hK⟩
  · rename_i cs e'
    obtain ⟨⟨h0, hl⟩, hK⟩ := h
    rw [e'] at hx
    generalize hy : ρc x = y at hx
    have hx' := hx
    cases hx with
    | vp _ b off vals hf hn' hc hr =>
      obtain ⟨b', o', hy', hr'⟩ := padd_rep (a := .vp cs) (r := .vp (cs.drop (n.toNat * sz))) (n := n.toNat * sz) rfl hx' (fun _ _ _ _ he => by cases he)
      cases hy'
      exact ⟨_, _, by simp [execOp, ho, hy, hi', run _ _ h0 hl], hr', hK⟩
  · rename_i hh ver j off e'
    obtain ⟨cs, hcs, ⟨h0, hl⟩, hK⟩ := h
    rw [e'] at hx
    generalize hy : ρc x = y at hx
    obtain ⟨b', o', hy', hr'⟩ := padd_rep (a := .rp hh ver j off) (r := .rp hh ver j (off + n.toNat * sz)) (n := n.toNat * sz) rfl hx (fun k' ver' i' off' he => by
      cases he
      simp only [cellsAt] at hcs
      rw [h2]
      split at hcs
      · rename_i t' z' es hk'
        split at hcs
        · rename_i hv; exact ⟨t', z', es, hk', hv⟩
        · cases hcs
      · cases hcs)
    subst hy'
    exact ⟨_, _, by simp [execOp, ho, hy, hi', run _ _ h0 hl], hr', hK⟩
  · exact h.elim
def idxVal (x : AV) (agg : Bool) (len sz : Nat) (i : Int) : Option AV := if 0 ≤ i ∧ i < len then (aggCells x).bind (partA agg sz (i.toNat * sz)) else none
theorem sound_indexArr {t : TypeId} {x i : Operand} (ho : o.op = .index t x i)
    (h : bindO (arOf P t) fun ar => bindO (szOf P ar.2) fun sz => bindO (aggOf P ar.2) fun agg => bindO (intA (ρ i)) fun n => bindO (idxVal (ρ x) agg ar.1 sz n) fun r => K r H) : OpSem P o ρ H K pan := by
  obtain ⟨⟨len, e⟩, he, sz, hz, agg, ha, n, hn, r, hr, hK⟩ := h
  have hu : P.underlying t = some (.array len e) := by
    unfold arOf at he; split at he
    · rename_i n' e' hu; cases he; exact hu
    · cases he
  refine opsem_same fun cx ρc B w0 h1 h2 h3 => ?_
  have hx := h3 x (by simp [Op.operands, ho])
  have hi := h3 i (by simp [Op.operands, ho])
  obtain ⟨k, hk⟩ := intA_spec hn
  rw [hk] at hi
  have hi' := hi.v_inv
  unfold idxVal at hr
  split at hr
  · rename_i hb
    simp only at hb
    rw [Option.bind_eq_some_iff] at hr
    obtain ⟨cs, hcs, hp⟩ := hr
    have he : ρ x = .agg cs := by
      generalize ρ x = a at hcs
      cases a <;> simp [aggCells] at hcs; subst hcs; rfl
    rw [he] at hx
    obtain ⟨vals, hy, hrr⟩ := hx.agg_inv
    obtain ⟨y, e1, e2⟩ := run_part (w := cx.w) hz ha hrr hp
    exact ⟨r, y, by simp [execOp, ho, Instr.index, hy, hi', asIntOf, run_underlying hu, hb.1, hb.2, run_sizeOf hz, e1], e2, hK⟩
  · cases hr
def strA : AV → Option ByteArray
  | .v (.string s) => some s
  | _ => none
theorem strA_spec {a : AV} {s : ByteArray} (h : strA a = some s) : a = .v (.string s) := by
  cases a <;> simp [strA] at h
  rename_i x
  cases x <;> simp [strA] at h
  subst h; rfl
theorem sound_indexStr {t : TypeId} {x i : Operand} (ho : o.op = .index t x i)
    (h : andV (lkOf P t = 2) (bindO (strA (ρ x)) fun s => bindO (intA (ρ i)) fun n => andV (0 ≤ n) (bindO (s.data.toList[n.toNat]?) fun b => K (.v (.int .u8 b.toNat)) H))) : OpSem P o ρ H K pan := by
  obtain ⟨hl, s, hs, n, hn, h0, b, hb, hK⟩ := h
  have hu : P.underlying t = some .string := by
    unfold lkOf at hl
    split at hl <;> first | (cases hl; done) | assumption
  refine opsem_same fun cx ρc B w0 h1 h2 h3 => ?_
  have hx := h3 x (by simp [Op.operands, ho])
  have hi := h3 i (by simp [Op.operands, ho])
  obtain ⟨k, hk⟩ := intA_spec hn
  rw [hk] at hi
  rw [strA_spec hs] at hx
  have hx' := hx.v_inv
  have hi' := hi.v_inv
  have hget : s[n.toNat]? = some b := by
    have := List.getElem?_eq_some_iff.1 hb
    obtain ⟨hlt, he⟩ := this
    have hlt' : n.toNat < s.size := by simpa using hlt
    rw [getElem?_pos s n.toNat hlt']
    congr 1
  exact ⟨_, .int .u8 b.toNat, by simp [execOp, ho, Instr.index, hx', hi', asIntOf, run_underlying hu, h0, hget], .v _, hK⟩
def byB (P : Program) (s t : TypeId) : Bool := match P.underlying s, P.underlying t with
  | some .string, some (.slice e) => (match P.underlying e with | some (.int .u8) => true | _ => false)
  | _, _ => false
def bytesA (s : ByteArray) : List (List AV) := s.data.toList.map fun b => [.v (.int .u8 b.toNat)]
def byS (P : Program) (s t : TypeId) : Bool := match P.underlying s, P.underlying t with
  | some (.slice e), some .string => (match P.underlying e with | some (.int .u8) => true | _ => false)
  | _, _ => false
def numsB : List (List AV) → Option (List Int)
  | [] => some []
  | [.v (.int .u8 n)] :: es => (numsB es).map (n :: ·)
  | _ => none
def bstrA : AV → Option ByteArray
  | .vs sz es => if sz = 1 then (numsB es).map strOfNums else none
  | .vx sz es => if sz = 1 then (numsB es).map strOfNums else none
  | _ => none
theorem numsB_spec : ∀ {es : List (List AV)} {l : List Int}, numsB es = some l → es = l.map fun n => [AV.v (.int .u8 n)]
  | [], l, h => by simp [numsB] at h; subst h; rfl
  | e :: es, l, h => by
    unfold numsB at h
    split at h
    · rename_i he; cases he
    · rename_i n es' he
      cases he
      rw [Option.map_eq_some_iff] at h
      obtain ⟨l', hl, rfl⟩ := h
      rw [numsB_spec hl]; rfl
    · cases h
def convV (P : Program) (s t : TypeId) (k : Option IntKind) (x : AV) (K : AV → Prop) : Prop :=
  match k with
  | some k => andV (undB P s = true) (bindO (intA x) fun n => K (.v (.int k (k.wrap n))))
  | none => if byS P s t = true then bindO (bstrA x) fun b => K (.v (.string b)) else andV (byB P s t = true) (bindO (strA x) fun s => K (.vs 1 (bytesA s)))
theorem flat_ones {α : Type} (g : α → AV) (l : List α) : (l.map fun b => [g b]).flatten = l.map g := by
  induction l with
  | nil => rfl
  | cons a l ih => simp [ih]
theorem bytesA_flat (s : ByteArray) : (bytesA s).flatten = s.data.toList.map fun b => AV.v (.int .u8 b.toNat) := flat_ones _ _
theorem sound_conv {s t : TypeId} {x : Operand} (ho : o.op = .convert s t x) (h : convV P s t (kOf P t) (ρ x) fun r => K r H) : OpSem P o ρ H K pan := by
  unfold convV at h
  split at h
  · rename_i k hk
    obtain ⟨h1, n, h2, h3⟩ := h
    exact sound_convI ho ⟨h1, k, hk, n, h2, h3⟩
  · split at h
    · rename_i hb
      obtain ⟨b, hb', hK⟩ := h
      unfold byS at hb
      split at hb
      · rename_i e hus hut
        have hue : P.underlying e = some (.int .u8) := by
          split at hb
          · assumption
          · cases hb
        refine opsem_same fun cx ρc B w0 h1 h2 h3 => ?_
        have hx := h3 x (by simp [Op.operands, ho])
        have key : ∀ (es : List (List AV)) (l : List Int) (bb oo cap : Nat) (vals : List Value), numsB es = some l → es.flatten.length = vals.length → (∀ (j : Nat) x, vals[j]? = some x → cx.w.cell? ⟨bb, oo + j, none⟩ = some x) →
            (∀ (j : Nat) c x, es.flatten[j]? = some c → vals[j]? = some x → Rep cx true c x) → (convert s t (.slice (some ⟨bb, oo, none⟩) es.length cap)).run P cx.w = .ok (.string (strOfNums l)) cx.w := by
          intro es l bb oo cap vals hn hl hc hr
          have he := numsB_spec hn
          subst he
          rw [flat_ones] at hl hr
          refine run_convert_bytes_arg cx.w s e hus hue bb oo _ cap l (by simp) (fun i hi => ?_) t hut
          have hi' : i < l.length := by simpa using hi
          have hv : i < vals.length := by rw [← hl]; simpa using hi'
          have hcell := hc i vals[i] (List.getElem?_eq_getElem hv)
          have := (hr i (.v (.int .u8 l[i])) vals[i] (by rw [List.getElem?_map, List.getElem?_eq_getElem hi']; rfl) (List.getElem?_eq_getElem hv)).v_inv
          rw [hcell, this]
          simp [List.getD, List.getElem?_eq_getElem hi']
        have base : ∀ v, ρc x = v → (execOp ρc o).run P cx.w = ((convert s t v).run P cx.w).andThen fun v w => .ok (.value v) w := fun v hv => by simp [execOp, ho, hv]
        generalize hρ : ρ x = a at hb' hx
        refine ⟨.v (.string b), .string b, ?_, .v _, hK⟩
        unfold bstrA at hb'
        split at hb'
        · rename_i sz es
          split at hb'
          · rename_i hsz
            subst hsz
            rw [Option.map_eq_some_iff] at hb'
            obtain ⟨l, hl, rfl⟩ := hb'
            generalize hy : ρc x = y at hx
            cases hx with
            | vs0 _ a cap =>
              simp [numsB] at hl; subst hl
              rw [base _ hy]
              cases a with
              | none => rw [run_convert_bytes_nil cx.w s e hus hue 0 cap t hut]; rfl
              | some a =>
                have := run_loadCells_list (P := P) cx.w a [] (fun j v hj => by simp at hj)
                rw [run_convert_bytes_string cx.w s t e _ 0 cap hus hue hut, run_bytesToString cx.w a 0 cap [] (by simpa using this)]; rfl
            | vs _ _ bb oo cap vals hf hz hcap hl' hn ho' hc hr => rw [base _ hy, key es l bb oo cap vals hl hn hc hr]; rfl
          · cases hb'
        · rename_i sz es
          split at hb'
          · rename_i hsz
            subst hsz
            rw [Option.map_eq_some_iff] at hb'
            obtain ⟨l, hl, rfl⟩ := hb'
            generalize hy : ρc x = y at hx
            cases hx with
            | vx _ _ bb oo vals hf hz hl' hn ho' hc hr => rw [base _ hy, key es l bb oo _ vals hl hn hc hr]; rfl
          · cases hb'
        · cases hb'
      · cases hb
    obtain ⟨hb, st, hs, hK⟩ := h
    unfold byB at hb
    split at hb
    · rename_i e hus hut
      have hue : P.underlying e = some (.int .u8) := by
        split at hb
        · assumption
        · cases hb
      refine opsem_val fun B w0 cx ρc h1 h2 h3 => ?_
      have hx := h3 x (by simp [Op.operands, ho])
      rw [strA_spec hs] at hx
      have ex := hx.v_inv
      have hge := grownCap_ge cx.w st.size 0 e
      have run := run_bytes_of_string (P := P) cx.w s t e st hus hut hue
      generalize grownCap cx.w st.size 0 e = g at run hge
      have hsz : st.size = st.data.toList.length := Array.length_toList.symm
      have hlen : (bytesA st).length = st.size := by rw [bytesA, List.length_map, hsz]
      refine ⟨cx.drew.frozen (.cells (bytesRow st g) e ((bytesRow st g).size, (bytesRow st g).size + 1)), .vs 1 (bytesA st), .slice (some ⟨cx.w.heap.size, 0, none⟩) st.size g, ?_, hrel_frozen (hrel_drew h1) _, (le_drew cx).trans (le_frozen _ _), ?_, h2 ▸ hK⟩
      · simp only [execOp, ho, ex, Sem.run_bind, run, Result.andThen_ok, Sem.run_pure]; rfl
      · rw [← hlen]
        refine .vs 1 (bytesA st) cx.w.heap.size 0 g (st.data.toList.map fun b => Value.int .u8 b.toNat) (.inr rfl) (by omega) (by omega) ?_ ?_ ?_ (fun j v hv => ?_) (fun j c v hc hv => ?_)
        · intro c hc
          obtain ⟨b, _, rfl⟩ := List.mem_map.1 hc
          rfl
        · rw [bytesA_flat]; simp
        · intro v hv
          obtain ⟨b, _, rfl⟩ := List.mem_map.1 hv
          rfl
        · show (World.alloc cx.drew.w _).cell? ⟨cx.drew.w.heap.size, 0 + j, none⟩ = _
          rw [cell_of_row _ _ _ _ _ _ (heap_alloc_new cx.drew.w _)]
          rw [List.getElem?_map] at hv
          obtain ⟨b, hb, rfl⟩ := Option.map_eq_some_iff.1 hv
          obtain ⟨hj, hb⟩ := List.getElem?_eq_some_iff.1 hb
          have hj' : j < st.data.size := by simpa using hj
          simp only [bytesRow, Nat.zero_add]
          rw [Array.getElem?_append_left (by simpa using hj')]
          simp only [Array.getElem?_map]
          rw [Array.getElem?_eq_getElem hj']
          simp only [Option.map_some]
          rw [← hb]; simp
        · rw [bytesA_flat, List.getElem?_map] at hc
          rw [List.getElem?_map] at hv
          obtain ⟨b, hb, rfl⟩ := Option.map_eq_some_iff.1 hc
          rw [hb] at hv
          simp only [Option.map_some, Option.some.injEq] at hv
          subst hv
          exact .v _
    · cases hb
def minA : AV → AV → Option AV
  | .v (.int k a), .v (.int _ b) => some (.v (.int k (if b < a then b else a)))
  | _, _ => none
theorem minA_spec {a b r : AV} (h : minA a b = some r) : ∃ k k' x y, a = .v (.int k x) ∧ b = .v (.int k' y) ∧ r = .v (.int k (if y < x then y else x)) := by
  unfold minA at h
  split at h
  · simp only [Option.some.injEq] at h; exact ⟨_, _, _, _, rfl, rfl, h.symm⟩
  · cases h
theorem sound_min {x y : Operand} {ts : Array TypeId} (ho : o.op = .call { callee := .builtin .min, args := #[x, y], argTypes := ts })
    (h : bindO (minA (ρ x) (ρ y)) fun r => K r H) : OpSem P o ρ H K pan := by
  obtain ⟨r, hr, hK⟩ := h
  obtain ⟨k, k', a, b, e1, e2, rfl⟩ := minA_spec hr
  refine opsem_same fun cx ρc B w0 h1 h2 h3 => ?_
  have hx := h3 x (by simp [Op.operands, Call.operands, ho])
  have hy := h3 y (by simp [Op.operands, Call.operands, ho])
  rw [e1] at hx
  rw [e2] at hy
  refine ⟨_, .int k (if b < a then b else a), ?_, .v _, hK⟩
  simp [execOp, ho, resolve, invoke, builtin, hx.v_inv, hy.v_inv, Builtin.min_, Builtin.min2]
def maxA : AV → AV → Option AV
  | .v (.int k a), .v (.int _ b) => some (.v (.int k (if a < b then b else a)))
  | _, _ => none
theorem maxA_spec {a b r : AV} (h : maxA a b = some r) : ∃ k k' x y, a = .v (.int k x) ∧ b = .v (.int k' y) ∧ r = .v (.int k (if x < y then y else x)) := by
  unfold maxA at h
  split at h
  · simp only [Option.some.injEq] at h; exact ⟨_, _, _, _, rfl, rfl, h.symm⟩
  · cases h
theorem sound_max {x y : Operand} {ts : Array TypeId} (ho : o.op = .call { callee := .builtin .max, args := #[x, y], argTypes := ts })
    (h : bindO (maxA (ρ x) (ρ y)) fun r => K r H) : OpSem P o ρ H K pan := by
  obtain ⟨r, hr, hK⟩ := h
  obtain ⟨k, k', a, b, e1, e2, rfl⟩ := maxA_spec hr
  refine opsem_same fun cx ρc B w0 h1 h2 h3 => ?_
  have hx := h3 x (by simp [Op.operands, Call.operands, ho])
  have hy := h3 y (by simp [Op.operands, Call.operands, ho])
  rw [e1] at hx
  rw [e2] at hy
  refine ⟨_, .int k (if a < b then b else a), ?_, .v _, hK⟩
  simp [execOp, ho, resolve, invoke, builtin, hx.v_inv, hy.v_inv, Builtin.max_, Builtin.max2]
def optI : Option AV → Option (Option Int)
  | none => some none
  | some a => (intA a).map some
def sliceV (H : List Blk) (sz : Nat) (x : AV) (lo hi : Option Int) (k : AV → Prop) : Prop :=
  match x with
  | .vs sz' es => andV (sz' = sz ∧ 0 ≤ lo.getD 0 ∧ lo.getD 0 ≤ hi.getD es.length ∧ hi.getD es.length ≤ es.length) (k (.vs sz ((es.take (hi.getD es.length).toNat).drop (lo.getD 0).toNat)))
  | .hs h off n ver => match H[h]? with
    | some (.row _ z es) => andV (z = sz ∧ es.length = ver ∧ 0 ≤ lo.getD 0 ∧ lo.getD 0 ≤ hi.getD n ∧ hi.getD n ≤ n ∧ (lo.getD 0 = 0 ∨ lo.getD 0 < hi.getD n)) (k (.hs h (off + (lo.getD 0).toNat) ((hi.getD n).toNat - (lo.getD 0).toNat) ver))
    | _ => False
  | .v (.slice none 0 0) => andV (lo.getD 0 = 0 ∧ hi.getD 0 = 0) (k (.v (.slice none 0 0)))
  | _ => False
theorem run_sliceBound (k : IntKind) (n : Int) (y : Nat) (code : BoundsCode) (h0 : 0 ≤ n) (h1 : n ≤ y) (w : World) : (Instr.sliceBound (.int k n) y code).run P w = .ok n.toNat w := by
  simp [Instr.sliceBound, asIntOf, h0, h1]
theorem run_sliceBounds {lo hi : Option Value} {l h : Option Int} (hl : (lo = none ∧ l = none) ∨ ∃ k n, lo = some (.int k n) ∧ l = some n) (hh : (hi = none ∧ h = none) ∨ ∃ k n, hi = some (.int k n) ∧ h = some n)
    (isS : Bool) (len cap : Nat) (h0 : 0 ≤ l.getD 0) (h1 : l.getD 0 ≤ h.getD len) (h2 : h.getD len ≤ cap) (w : World) :
    (Instr.sliceBounds isS len cap lo hi none).run P w = .ok ((l.getD 0).toNat, (h.getD len).toNat, cap) w := by
  rcases hl with ⟨rfl, rfl⟩ | ⟨kl, nl, rfl, rfl⟩ <;> rcases hh with ⟨rfl, rfl⟩ | ⟨kh, nh, rfl, rfl⟩ <;> simp only [Option.getD_none, Option.getD_some] at h0 h1 h2
  · simp [Instr.sliceBounds]
  · simp only [Instr.sliceBounds, Sem.run_bind, Sem.run_pure, Result.andThen_ok, run_sliceBound kh nh cap _ (by omega) h2, Option.getD_none, Option.getD_some]; rfl
  · simp only [Instr.sliceBounds, Sem.run_bind, Sem.run_pure, Result.andThen_ok, run_sliceBound kl nl len _ h0 h1, Option.getD_none, Option.getD_some]; rfl
  · simp only [Instr.sliceBounds, Sem.run_bind, Sem.run_pure, Result.andThen_ok, run_sliceBound kh nh cap _ (by omega) h2, run_sliceBound kl nl nh.toNat _ h0 (by omega), Option.getD_none, Option.getD_some]
def arpOf (P : Program) (t : TypeId) : Option (Nat × TypeId) :=
  match P.underlying t with
  | some (.array n e) => some (n, e)
  | some (.pointer a) => (match P.underlying a with | some (.array n e) => some (n, e) | _ => none)
  | _ => none
def sliceA (len sz : Nat) (x : AV) (lo hi : Option Int) (k : AV → Prop) : Prop :=
  match x with
  | .bp h off => andV (0 ≤ lo.getD 0 ∧ lo.getD 0 ≤ hi.getD len ∧ hi.getD len ≤ len ∧ lo.getD 0 < len) (k (.bs h (off + (lo.getD 0).toNat * sz) ((hi.getD len).toNat - (lo.getD 0).toNat)))
  | _ => False
theorem sound_sliceA {t : TypeId} {x : Operand} {lo hi : Option Operand} (ho : o.op = .slice t x lo hi none)
    (h : bindO (arpOf P t) fun ar => bindO (szOf P ar.2) fun sz => bindO (optI (lo.map ρ)) fun l => bindO (optI (hi.map ρ)) fun hh => sliceA ar.1 sz (ρ x) l hh fun r => K r H) : OpSem P o ρ H K pan := by
  obtain ⟨⟨len, e⟩, he, sz, hz, l, hl, hh, hhh, h⟩ := h
  simp only at hz h
  refine opsem_same fun cx ρc B w0 h1 h2 h3 => ?_
  have hx := h3 x (by simp [Op.operands, ho])
  have opt : ∀ (q : Option Operand) (r : Option Int), optI (q.map ρ) = some r → (∀ y, q = some y → y ∈ o.op.operands) → (q.map ρc = none ∧ r = none) ∨ ∃ k n, q.map ρc = some (.int k n) ∧ r = some n := by
    intro q r hq hm
    cases q with
    | none => simp [optI] at hq; subst hq; exact .inl ⟨rfl, rfl⟩
    | some y =>
      simp only [Option.map_some, optI] at hq
      rw [Option.map_eq_some_iff] at hq
      obtain ⟨n, hn, rfl⟩ := hq
      obtain ⟨k, hk⟩ := intA_spec hn
      have := h3 y (hm y rfl)
      rw [hk] at this
      exact .inr ⟨k, n, by simp [this.v_inv], rfl⟩
  have ol := opt lo l hl (fun y hy => by simp [Op.operands, ho, hy])
  have oh := opt hi hh hhh (fun y hy => by simp [Op.operands, ho, hy])
  unfold sliceA at h
  split at h
  · rename_i h' off e'
    obtain ⟨⟨h0, hlh, hhn, hlt⟩, hK⟩ := h
    rw [e'] at hx
    generalize hy : ρc x = y at hx
    cases hx with
    | bp _ _ bl hk' hf =>
      refine ⟨_, .slice (some ⟨cx.κ h', off + (l.getD 0).toNat * sz, none⟩) ((hh.getD len).toNat - (l.getD 0).toNat) (len - (l.getD 0).toNat), ?_, .bs h' _ _ _ bl hk' hf (by omega), hK⟩
      unfold arpOf at he
      split at he
      · rename_i n' e2 hu
        cases he
        have e0 : ¬ len = (l.getD 0).toNat := by omega
        simp [execOp, ho, Instr.sliceAt, run_underlying hu, hy, Instr.sureAddr, run_sliceBounds ol oh false len len h0 hlh (by omega), run_sizeOf hz, e0, Addr.add_lit]
      · rename_i a hu
        split at he
        · rename_i n' e2 hu2
          cases he
          have e0 : ¬ len = (l.getD 0).toNat := by omega
          simp [execOp, ho, Instr.sliceAt, Instr.slice, run_underlying hu, run_underlying hu2, hy, asAddr, run_sliceBounds ol oh false len len h0 hlh (by omega), run_sizeOf hz, e0, Addr.add_lit]
        · cases he
      · cases he
  · exact h.elim
theorem sound_slice {t : TypeId} {x : Operand} {lo hi : Option Operand} (ho : o.op = .slice t x lo hi none)
    (h : bindO (elOf P t) fun e => bindO (szOf P e) fun sz => bindO (optI (lo.map ρ)) fun l => bindO (optI (hi.map ρ)) fun hh => sliceV H sz (ρ x) l hh fun r => K r H) : OpSem P o ρ H K pan := by
  obtain ⟨e, he, sz, hz, l, hl, hh, hhh, h⟩ := h
  have hu : P.underlying t = some (.slice e) := by
    unfold elOf at he; split at he
    · rename_i e' hu; cases he; exact hu
    · cases he
  refine opsem_same fun cx ρc B w0 h1 h2 h3 => ?_
  have hx := h3 x (by simp [Op.operands, ho])
  have opt : ∀ (q : Option Operand) (r : Option Int), optI (q.map ρ) = some r → (∀ y, q = some y → y ∈ o.op.operands) → (q.map ρc = none ∧ r = none) ∨ ∃ k n, q.map ρc = some (.int k n) ∧ r = some n := by
    intro q r hq hm
    cases q with
    | none => simp [optI] at hq; subst hq; exact .inl ⟨rfl, rfl⟩
    | some y =>
      simp only [Option.map_some, optI] at hq
      rw [Option.map_eq_some_iff] at hq
      obtain ⟨n, hn, rfl⟩ := hq
      obtain ⟨k, hk⟩ := intA_spec hn
      have := h3 y (hm y rfl)
      rw [hk] at this
      exact .inr ⟨k, n, by simp [this.v_inv], rfl⟩
  have ol := opt lo l hl (fun y hy => by simp [Op.operands, ho, hy])
  have oh := opt hi hh hhh (fun y hy => by simp [Op.operands, ho, hy])
  have ex : ∀ (v : Value), ρc x = v → (execOp ρc o).run P cx.w = ((Instr.slice t v (lo.map ρc) (hi.map ρc) none).run P cx.w).andThen fun v w => .ok (.value v) w := fun v hv => by
    simp [execOp, ho, Instr.sliceAt, run_underlying hu, hv]
  unfold sliceV at h
  split at h
  · rename_i sz' es e'
    obtain ⟨⟨rfl, h0, hlh, hhn⟩, hK⟩ := h
    rw [e'] at hx
    generalize hy : ρc x = y at hx
    have done0 : ∀ a c, y = .slice a es.length c → es.length ≤ c →
        (execOp ρc o).run P cx.w = .ok (.value (.slice (if c = (l.getD 0).toNat then a else a.map (·.add ((l.getD 0).toNat * sz'))) ((hh.getD es.length).toNat - (l.getD 0).toNat) (c - (l.getD 0).toNat))) cx.w := by
      intro a c he hc
      rw [ex _ hy, he]
      simp only [Instr.slice, run_underlying hu, Sem.run_bind, Result.andThen_ok, run_sliceBounds ol oh true es.length c h0 hlh (by omega), run_sizeOf hz, Sem.run_pure]
    have hln : ((es.take (hh.getD es.length).toNat).drop (l.getD 0).toNat).length = (hh.getD es.length).toNat - (l.getD 0).toNat := by simp; omega
    cases hx with
    | vs0 _ a c =>
      refine ⟨_, _, done0 a c rfl (Nat.zero_le _), ?_, hK⟩
      have e0 : (hh.getD (([] : List (List AV)).length : Int)).toNat = 0 := by simp at hhn ⊢; omega
      rw [e0]
      simp
      exact .vs0 _ _ _
    | vs _ _ b oo cap vals hf hzz hcap hl' hn' hone hc hr =>
      refine ⟨_, _, done0 _ cap rfl hcap, ?_, hK⟩
      by_cases hemp : (hh.getD es.length).toNat - (l.getD 0).toNat = 0
      · have : (es.take (hh.getD es.length).toNat).drop (l.getD 0).toNat = [] := List.eq_nil_of_length_eq_zero (by rw [hln]; exact hemp)
        rw [this, hemp]; exact .vs0 _ _ _
      · rw [if_neg (by omega), ← hln]
        simp only [Option.map_some, Addr.add_lit]
        have hrl := (RepL.mk (cx := cx) (z := true) hn' hr)
        have hfl : ((es.take (hh.getD es.length).toNat).drop (l.getD 0).toNat).flatten = (es.flatten.take ((hh.getD es.length).toNat * sz')).drop ((l.getD 0).toNat * sz') := by
          rw [flatten_drop _ sz' _ (fun e he => hl' e (List.mem_of_mem_take he)), flatten_take _ sz' _ hl']
        have hsub := (hrl.take ((hh.getD es.length).toNat * sz')).drop ((l.getD 0).toNat * sz')
        rw [← hfl] at hsub
        refine .vs sz' _ b _ _ _ hf hzz (by rw [hln]; omega) (fun e he => hl' e (List.mem_of_mem_take (List.mem_of_mem_drop he))) hsub.len (fun v hv => hone v (List.mem_of_mem_take (List.mem_of_mem_drop hv))) (fun j v hv => ?_) hsub.rep
        rw [List.getElem?_drop, List.getElem?_take] at hv
        split at hv
        · rw [Nat.add_assoc]; exact hc _ v hv
        · cases hv
  · rename_i h' off n ver e'
    split at h
    · rename_i t' z es hk'
      obtain ⟨⟨hzz, hver, h0, hlh, hhn, hne⟩, hK⟩ := h
      have hz2 : sz = z := hzz.symm
      subst hz2
      rw [e'] at hx
      generalize hy : ρc x = y at hx
      cases hx with
      | hs _ _ _ _ _ hone bl hk'' hp =>
        rw [h2, hk'] at hk''; cases hk''
        rcases hp with hf | ⟨t'', sz'', es', heq, hle, hyy⟩
        · simp [Blk.fixed] at hf
        · cases heq
          obtain ⟨hle2, hy2⟩ := hyy hver
          obtain ⟨b1, b2, b3, b4, b5, b6, cur, b7, b8, b9, b10⟩ := h1.blk h' _ (h2 ▸ hk')
          refine ⟨_, .slice (some ⟨cx.κ h', (off + (l.getD 0).toNat) * sz, none⟩) ((hh.getD n).toNat - (l.getD 0).toNat) (cx.γ h' - (off + (l.getD 0).toNat)), ?_, ?_, hK⟩
          · rw [ex _ hy, hy2]
            simp only [Instr.slice, run_underlying hu, Sem.run_bind, Result.andThen_ok, run_sliceBounds ol oh true n (cx.γ h' - off) h0 hlh (by omega), run_sizeOf hz, Sem.run_pure]
            congr 2
            have e3 : cx.γ h' - off - (l.getD 0).toNat = cx.γ h' - (off + (l.getD 0).toNat) := by omega
            rw [e3]
            congr 1
            split
            · rename_i hc
              have hl0 : (l.getD 0).toNat = 0 := by rcases hne with h | h <;> omega
              rw [hl0]; simp
            · simp [Addr.add_lit, Nat.add_mul]
          · exact .hs h' _ _ ver _ rfl _ (by rw [h2]; exact hk') (.inr ⟨t', sz, es, rfl, hle, fun _ => ⟨by omega, rfl⟩⟩)
    · exact h.elim
  · rename_i e'
    obtain ⟨⟨hl0, hh0⟩, hK⟩ := h
    rw [e'] at hx
    refine ⟨_, .slice none 0 0, ?_, .v _, hK⟩
    rw [ex _ hx.v_inv]
    have := run_sliceBounds (P := P) ol oh true 0 0 (by omega) (by simpa using (by omega : l.getD 0 ≤ hh.getD 0)) (by simpa using (by omega : hh.getD 0 ≤ 0)) cx.w
    simp only [Instr.slice, run_underlying hu, Sem.run_bind, Result.andThen_ok, this, run_sizeOf hz, Sem.run_pure]
    simp [hl0, hh0]
  · exact h.elim
theorem sound_makeSlice {t : TypeId} {ln cp : Operand} (ho : o.op = .makeSlice t ln cp)
    (h : bindO (slbOf P t) fun sl => bindO (intA (ρ ln)) fun n => bindO (intA (ρ cp)) fun c => andV (0 ≤ n ∧ n ≤ c ∧ (sl.2.2.2 : Int) * c ≤ 281474976710656 ∧ c ≤ 9223372036854775807 ∧ sl.2.2.1.all Value.oneCell' = true)
      (K (.hs H.length 0 n.toNat n.toNat) (H ++ [.row sl.1 sl.2.1 (List.replicate n.toNat (sl.2.2.1.map .v))]))) : OpSem P o ρ H K pan := by
  obtain ⟨⟨e, sz, zc, by_⟩, hs, n, hn, c, hc, ⟨h0, hnc, hb, h63, hz1⟩, hK⟩ := h
  obtain ⟨ie, z, hu, hi, hz, hzs, his, hsz, hzc, hby⟩ := slbOf_spec hs
  simp only at hb hz1 hK
  refine opsem_val fun B w0 cx ρc h1 h2 h3 => ?_
  have hln := h3 ln (by simp [Op.operands, ho])
  have hcp := h3 cp (by simp [Op.operands, ho])
  obtain ⟨kl, hkl⟩ := intA_spec hn
  obtain ⟨kc, hkc⟩ := intA_spec hc
  rw [hkl] at hln; rw [hkc] at hcp
  have hr := run_make (P := P) cx.w t e ie z hu hi hz kl kc n c h0 hnc (by rw [hby]; exact hb) h63
  have hzl : zc.length = sz := by rw [← hzc]; simpa using hzs
  have hmade : (madeCells z.cells (c.toNat * ie.size)) = ((List.replicate c.toNat zc).flatten).toArray := by
    rw [← range_zero zc sz hzl hsz c.toNat, his]
    apply Array.ext'
    simp [madeCells, ← hzc]
  have hlen : ((List.replicate c.toNat zc).flatten).length = c.toNat * sz := by rw [flatten_len _ sz (fun e he => by rw [List.eq_of_mem_replicate he]; exact hzl), List.length_replicate]
  have htake : ((List.replicate c.toNat zc).flatten).take (n.toNat * sz) = (List.replicate n.toNat zc).flatten := by
    rw [← flatten_take _ sz _ (fun e he => by rw [List.eq_of_mem_replicate he]; exact hzl), List.take_replicate, Nat.min_eq_left (by omega)]
  have hpu := push_row h1 e sz c.toNat (es := List.replicate n.toNat (zc.map .v)) (vals := (List.replicate c.toNat zc).flatten) hsz (fun e he => by rw [List.eq_of_mem_replicate he]; simpa using hzl)
    (by simp; omega) (by unfold maxLen; omega) hlen (by rw [List.length_replicate, htake]; exact RepL.replicate (RepL.of_v cx false zc) n.toNat)
    (fun x hx => by
      obtain ⟨l', hl', hx'⟩ := List.mem_flatten.1 hx
      rw [List.eq_of_mem_replicate hl'] at hx'
      exact List.all_eq_true.1 hz1 x hx')
  refine ⟨_, .hs cx.H.length 0 n.toNat n.toNat, .slice (some ⟨cx.w.heap.size, 0, none⟩) n.toNat c.toNat, ?_, hpu, le_push _ _ _ _, ?_, ?_⟩
  · simp only [execOp, ho, hln.v_inv, hcp.v_inv, Sem.run_bind, hr, Result.andThen_ok, Sem.run_pure, hmade]; rfl
  · have e1 : (Cx.push cx (.cells ((List.replicate c.toNat zc).flatten).toArray e (0, 0)) (.row e sz (List.replicate n.toNat (zc.map .v))) c.toNat).κ cx.H.length = cx.w.heap.size := updN_same _ _ _
    have e2 : (Cx.push cx (.cells ((List.replicate c.toNat zc).flatten).toArray e (0, 0)) (.row e sz (List.replicate n.toNat (zc.map .v))) c.toNat).γ cx.H.length = c.toNat := updN_same _ _ _
    refine .hs _ 0 n.toNat n.toNat _ rfl (.row e sz (List.replicate n.toNat (zc.map .v))) (by simp [Cx.push]) (.inr ⟨e, sz, _, rfl, by simp, fun _ => ⟨by omega, ?_⟩⟩)
    rw [e1, e2]; simp
  · rw [h2]; exact h2 ▸ hK
def assertV (x : AV) (want : TypeId) (zero : Value) (commaOk : Bool) : Option AV :=
  match x with
  | .ifc t y => if t = want then (if commaOk then some (.tup [y, .v (.bool true)]) else some y) else if commaOk then some (.tup [avZ zero, .v (.bool false)]) else none
  | .v .nilIface => if commaOk then some (.tup [avZ zero, .v (.bool false)]) else none
  | _ => none
where avZ : Value → AV
  | .agg cs => .agg (cs.toList.map .v)
  | x => .v x
theorem avZ_rep (cx : Cx) (z : Bool) (x : Value) : Rep cx z (assertV.avZ x) x := by
  unfold assertV.avZ
  split
  · rename_i cs; have := rep_agg (RepL.of_v cx z cs.toList); simpa using this
  · exact .v x
theorem sound_typeAssert {x : Operand} {s t : TypeId} {ok : Bool} (ho : o.op = .typeAssert x s t ok)
    (h : andV ((match P.underlying t with | some (.interface _) => false | some _ => true | none => false) = true) (bindO (zeroOf P t) fun z => bindO (assertV (ρ x) t z ok) fun r => K r H)) : OpSem P o ρ H K pan := by
  obtain ⟨hu, z, hz, r, hr, hK⟩ := h
  refine opsem_same fun cx ρc B w0 h1 h2 h3 => ?_
  have hx := h3 x (by simp [Op.operands, ho])
  have key : ∀ d, P.underlying t = some d → (∀ ms, d ≠ .interface ms) → ∃ r' y, (execOp ρc o).run P cx.w = .ok (.value y) cx.w ∧ Rep cx false r' y ∧ K r' H := by
    intro d hd hni
    have hnt : ∀ (a b : AV) (ya yb : Value), Rep cx false a ya → Rep cx false b yb → Rep cx false (.tup [a, b]) (.tuple #[ya, yb]) := fun a b ya yb ha hb => rep_tup (((RepL.nil cx false).cons hb).cons ha)
    unfold assertV at hr
    split at hr
    · rename_i t' y e
      rw [e] at hx
      generalize hy : ρc x = v at hx
      cases hx with
      | ifc _ _ y' hy' =>
        by_cases ht : t' = t
        · subst ht
          cases ok
          · simp at hr; subst hr
            exact ⟨y, y', by cases d <;> simp [execOp, ho, Instr.typeAssert, run_underlying hd, hy] <;> exact absurd rfl (hni _), hy', hK⟩
          · simp at hr; subst hr
            exact ⟨_, .tuple #[y', .bool true], by cases d <;> simp [execOp, ho, Instr.typeAssert, run_underlying hd, hy] <;> exact absurd rfl (hni _), hnt _ _ _ _ hy' (.v _), hK⟩
        · cases ok
          · simp [ht] at hr
          · simp [ht] at hr; subst hr
            exact ⟨_, .tuple #[z, .bool false], by cases d <;> simp [execOp, ho, Instr.typeAssert, run_underlying hd, hy, ht, run_zeroOf hz] <;> exact absurd rfl (hni _), hnt _ _ _ _ (avZ_rep _ _ z) (.v _), hK⟩
    · rename_i e
      rw [e] at hx
      have hy := hx.v_inv
      cases ok
      · simp at hr
      · simp at hr; subst hr
        exact ⟨_, .tuple #[z, .bool false], by cases d <;> simp [execOp, ho, Instr.typeAssert, run_underlying hd, hy, run_zeroOf hz] <;> exact absurd rfl (hni _), hnt _ _ _ _ (avZ_rep _ _ z) (.v _), hK⟩
    · cases hr
  cases hd : P.underlying t with
  | none => rw [hd] at hu; cases hu
  | some d => exact key d hd (fun ms he => by rw [hd, he] at hu; cases hu)
end
def isNilSl (y : AV) : Bool := match y with | .v (.slice none 0 0) => true | _ => false
def eqOp (op : BinOp) : Bool := match op with | .eql => true | .neq => true | _ => false
def eqVal (op : BinOp) (b : Bool) : Bool := match op with | .eql => b | _ => !b
def slNil (x : AV) (k : Bool → Prop) : Prop :=
  match x with
  | .v (.slice none 0 0) => k true
  | .vs _ es => (es ≠ [] → k false) ∧ (es = [] → k true ∧ k false)
  | .bs _ _ _ => k false
  | _ => False
theorem slNil_false {es : List (List AV)} {k : Bool → Prop} (h : (es ≠ [] → k false) ∧ (es = [] → k true ∧ k false)) : k false := by
  by_cases he : es = []
  · exact (h.2 he).2
  · exact h.1 he
section
variable {P : Program} {o : Oper} {ρ : Operand → AV} {H : List Blk} {K pan : AV → List Blk → Prop}
theorem sound_sliceNil {op : BinOp} {t t' : TypeId} {x y : Operand} (ho : o.op = .binOp op t x y t') (hy : isNilSl (ρ y) = true)
    (h : andV (eqOp op = true ∧ (elOf P t).isSome = true) (slNil (ρ x) fun b => K (.v (.bool (eqVal op b))) H)) : OpSem P o ρ H K pan := by
  obtain ⟨⟨hop, hel⟩, h⟩ := h
  refine opsem_same fun cx ρc B w0 h1 h2 h3 => ?_
  have hx := h3 x (by simp [Op.operands, ho])
  have hyr := h3 y (by simp [Op.operands, ho])
  have hyn : ρc y = .slice none 0 0 := by
    unfold isNilSl at hy
    split at hy
    · rename_i e; rw [e] at hyr; exact hyr.v_inv
    · cases hy
  obtain ⟨e, hu⟩ : ∃ e, P.underlying t = some (.slice e) := by
    unfold elOf at hel
    split at hel
    · rename_i e hu; exact ⟨e, hu⟩
    · cases hel
  have run : ∀ (a : Option Addr) (n c : Nat), ρc x = .slice a n c → (execOp ρc o).run P cx.w = .ok (.value (.bool (eqVal op a.isNone))) cx.w := by
    intro a n c hxe
    have hg : (eqGuard op t x y (ρc x) (ρc y)).run P cx.w = .ok () cx.w := by
      rw [hxe, hyn]; unfold eqGuard; cases op <;> simp [eqOp] at hop <;> rfl
    cases op <;> simp [eqOp] at hop
    · rw [hxe, hyn] at hg
      simp only [execOp, ho, Sem.run_bind, hxe, hyn, hg, Result.andThen_ok, Lib.run_eql_slice_nil cx.w t e a n c 0 0 hu, Sem.run_pure, eqVal]
    · rw [hxe, hyn] at hg
      simp only [execOp, ho, Sem.run_bind, hxe, hyn, hg, Result.andThen_ok, run_neq_slice_nil_any cx.w t e a n c 0 0 hu, Sem.run_pure, eqVal]
  generalize hxv : ρ x = xv at h hx
  generalize hxy : ρc x = xy at hx run
  unfold slNil at h
  split at h
  · obtain rfl := hx.v_inv
    exact ⟨_, _, run _ _ _ rfl, .v _, h⟩
  · cases hx with
    | vs0 sz a cap =>
      cases a with
      | none => exact ⟨_, _, run _ _ _ rfl, .v _, (h.2 rfl).1⟩
      | some b => exact ⟨_, _, run _ _ _ rfl, .v _, (h.2 rfl).2⟩
    | vs sz es b off cap vals hf hz hcap hl hn ho' hc hr =>
      refine ⟨_, _, run _ _ _ rfl, .v _, ?_⟩
      exact slNil_false (k := fun b => K (.v (.bool (eqVal op b))) H) h
  · cases hx with
    | bs _ _ _ cap bl hk' hf hc => exact ⟨_, _, run _ _ _ rfl, .v _, h⟩
  · exact h.elim
end
end Go.Mu
