/- Operations over abstract values, one by one (7): maps keyed by numbers, texts or bools. -/
import Derived.Test.YtganjkhdlehhdaaGreatFwI
import Derived.Maps.RangeRun
set_option linter.unusedVariables false
set_option linter.unusedSimpArgs false
namespace Go.Mu
open Go.RowKit (Below)
def mapOf (P : Program) (t : TypeId) : Option (TypeDesc × Value) :=
  match P.underlying t with
  | some (.map k e) => match P.underlying k, zeroOf P e with
    | some (.int kk), some z => some (.int kk, z)
    | some .string, some z => some (.string, z)
    | some .bool, some z => some (.bool, z)
    | _, _ => none
  | _ => none
theorem mapOf_spec {P : Program} {t : TypeId} {d : TypeDesc} {z : Value} (h : mapOf P t = some (d, z)) : ∃ k e, P.underlying t = some (.map k e) ∧ P.underlying k = some d ∧ zeroOf P e = some z ∧ ((∃ kk, d = .int kk) ∨ d = .string ∨ d = .bool) := by
  unfold mapOf at h
  split at h
  · rename_i k e hu
    split at h
    all_goals (first | (cases h; done) | skip)
    all_goals (rename_i hk hz; simp only [Option.some.injEq, Prod.mk.injEq] at h; obtain ⟨rfl, rfl⟩ := h; exact ⟨k, e, hu, hk, hz, by simp⟩)
  · cases h
def mfind (d : TypeDesc) (key : Value) : List (Value × AV) → Option (Option AV)
  | [] => some none
  | (k, v) :: rest => match Instr.sameNow d key k with
    | some true => some (some v)
    | some false => mfind d key rest
    | none => none
def mset (d : TypeDesc) (key : Value) (x : AV) : List (Value × AV) → Option (List (Value × AV))
  | [] => some [(key, x)]
  | (k, v) :: rest => match Instr.sameNow d key k with
    | some true => some ((key, x) :: rest)
    | some false => (mset d key x rest).map ((k, v) :: ·)
    | none => none
def keyA : AV → Option Value
  | .v k => some k
  | _ => none
theorem ba_eq {a b : ByteArray} (h : (a == b) = true) : a = b := by
  obtain ⟨⟨x⟩⟩ := a
  obtain ⟨⟨y⟩⟩ := b
  have h' : ((⟨x⟩ : Array UInt8) == ⟨y⟩) = true := h
  simp at h'
  subst h'; rfl
theorem sameNow_true {d : TypeDesc} {a b : Value} (h : Instr.sameNow d a b = some true) : a = b ∧ Instr.sameBits 10000 b a = true := by
  unfold Instr.sameNow at h
  split at h
  · split at h
    · rename_i hk; subst hk; simp at h; subst h; simp [Instr.sameBits]
    · cases h
  · rename_i a b
    simp at h
    have := ba_eq h
    subst this; simp [Instr.sameBits, h]
  · simp at h; subst h; simp [Instr.sameBits]
  · cases h
theorem find_rep {cx : Cx} {d : TypeDesc} {key : Value} : ∀ {es : List (Value × AV)} {ents : List MapEntry} {r : Option AV} (i : Nat), es.length = ents.length →
    (∀ (j : Nat) p e, es[j]? = some p → ents[j]? = some e → p.1 = e.key ∧ Rep cx false p.2 e.val) → mfind d key es = some r →
    (r = none ∧ Instr.findNow d key ents i = some none) ∨ ∃ x v n, r = some x ∧ Instr.findNow d key ents i = some (some (n, v)) ∧ Rep cx false x v
  | [], [], r, i, _, _, h => by simp [mfind] at h; subst h; exact .inl ⟨rfl, rfl⟩
  | [], _ :: _, _, _, hl, _, _ => by simp at hl
  | _ :: _, [], _, _, hl, _, _ => by simp at hl
  | (k, v) :: es, e :: ents, r, i, hl, hr, h => by
    obtain ⟨h1, h2⟩ := hr 0 _ _ rfl rfl
    simp only at h1 h2
    subst h1
    unfold mfind at h
    unfold Instr.findNow
    split at h
    · rename_i hs; simp at h; subst h; rw [hs]; exact .inr ⟨v, e.val, i, rfl, rfl, h2⟩
    · rename_i hs; rw [hs]
      exact find_rep (i + 1) (by simpa using hl) (fun j p q a b => hr (j + 1) p q (by simpa using a) (by simpa using b)) h
    · cases h
theorem set_rep {cx : Cx} {d : TypeDesc} {key : Value} {x : AV} {vx : Value} (hx : Rep cx false x vx) (clock : Nat) : ∀ {es out : List (Value × AV)} {ents : List MapEntry} (i : Nat), es.length = ents.length →
    (∀ (j : Nat) p e, es[j]? = some p → ents[j]? = some e → p.1 = e.key ∧ Rep cx false p.2 e.val) → mset d key x es = some out →
    (∃ n v e, Instr.findNow d key ents i = some (some (i + n, v)) ∧ ents[n]? = some e ∧ Instr.sameBits 10000 e.key key = true ∧ out.length = ents.length ∧ (∀ (j : Nat) p e', out[j]? = some p → (ents.modify n fun e => { e with key := key, val := vx })[j]? = some e' → p.1 = e'.key ∧ Rep cx false p.2 e'.val)) ∨
    (Instr.findNow d key ents i = some none ∧ out = es ++ [(key, x)])
  | [], out, [], i, _, _, h => by simp [mset] at h; subst h; exact .inr ⟨rfl, rfl⟩
  | [], _, _ :: _, _, hl, _, _ => by simp at hl
  | _ :: _, _, [], _, hl, _, _ => by simp at hl
  | (k, v) :: es, out, e :: ents, i, hl, hr, h => by
    obtain ⟨h1, h2⟩ := hr 0 _ _ rfl rfl
    simp only at h1 h2
    subst h1
    unfold mset at h
    unfold Instr.findNow
    split at h
    · rename_i hs; simp at h; subst h; rw [hs]
      obtain ⟨e1, e2⟩ := sameNow_true hs
      refine .inl ⟨0, e.val, e, rfl, rfl, e2, by simpa using hl, fun j p e' a b => ?_⟩
      cases j with
      | zero => simp at a b; subst a; subst b; exact ⟨rfl, hx⟩
      | succ j => simp at a b; exact hr (j + 1) p e' (by simpa using a) (by simpa using b)
    · rename_i hs; rw [hs]
      rw [Option.map_eq_some_iff] at h
      obtain ⟨out', ho, rfl⟩ := h
      rcases set_rep hx clock (i + 1) (by simpa using hl) (fun j p q a b => hr (j + 1) p q (by simpa using a) (by simpa using b)) ho with ⟨n, v', e', a1, a2, a3, a4, a5⟩ | ⟨a1, a2⟩
      · refine .inl ⟨n + 1, v', e', by rw [a1, show i + 1 + n = i + (n + 1) by omega], a2, a3, by simpa using a4, fun j p e'' a b => ?_⟩
        cases j with
        | zero => simp at a b; subst a; subst b; exact ⟨rfl, h2⟩
        | succ j => simp at a b; exact a5 j p e'' a b
      · exact .inr ⟨a1, by rw [a2]; rfl⟩
    · cases h
theorem run_checkKey_plainK {P : Program} {k : TypeId} {d : TypeDesc} (hk : P.underlying k = some d) (hd : (∃ kk, d = .int kk) ∨ d = .string ∨ d = .bool) (b : Bool) (key : Value) (w : World) :
    (Instr.checkKey b 10000 k key).run P w = .ok () w := by
  rw [show (10000 : Nat) = 9999 + 1 from rfl]
  unfold Instr.checkKey
  rcases hd with ⟨kk, rfl⟩ | rfl | rfl <;> simp [run_underlying hk]
section
variable {P : Program} {o : Oper} {ρ : Operand → AV} {H : List Blk} {K pan : AV → List Blk → Prop}
theorem sound_makeMap {t : TypeId} (ho : o.op = .makeMap t none) (h : K (.hm H.length) (H ++ [.map []])) : OpSem P o ρ H K pan := by
  refine opsem_val fun B w0 cx ρc h1 h2 h3 => ?_
  refine ⟨_, .hm cx.H.length, .map (some cx.w.heap.size), ?_, push_map h1, le_push _ _ _ _, ?_, ?_⟩
  · simp [execOp, ho, Instr.makeMap, Cx.push]
  · have : (Cx.push cx (.map #[] 0) (.map []) 0).κ cx.H.length = cx.w.heap.size := updN_same _ _ _
    rw [← this]
    exact .hm _ (.map []) (by simp [Cx.push]) rfl
  · rw [h2]; exact h2 ▸ h
def mapEs (H : List Blk) (x : AV) : Option (List (Value × AV)) :=
  match x with
  | .hm h => match H[h]? with | some (.map es) => some es | _ => none
  | .hg h => match H[h]? with | some (.mapg es) => some es | _ => none
  | .v (.map none) => some []
  | _ => none
theorem sound_lookup {t : TypeId} {x i : Operand} {ok : Bool} (ho : o.op = .lookup t x i ok)
    (h : bindO (mapOf P t) fun m => bindO (mapEs H (ρ x)) fun es => bindO (keyA (ρ i)) fun k => bindO (mfind m.1 k es) fun r =>
      K (if ok then .tup [r.getD (assertV.avZ m.2), .v (.bool r.isSome)] else r.getD (assertV.avZ m.2)) H) : OpSem P o ρ H K pan := by
  obtain ⟨⟨d, z⟩, hm, es, hes, k, hk, r, hr, hK⟩ := h
  obtain ⟨kt, e, hu, hku, hz, hd⟩ := mapOf_spec hm
  refine opsem_same fun cx ρc B w0 h1 h2 h3 => ?_
  have hx := h3 x (by simp [Op.operands, ho])
  have hi := h3 i (by simp [Op.operands, ho])
  have hi' : ρc i = k := by
    generalize ρ i = a at hk hi
    cases a <;> simp [keyA] at hk; subst hk; exact hi.v_inv
  have hents : ∃ (ents : List MapEntry), es.length = ents.length ∧ (∀ (j : Nat) p e, es[j]? = some p → ents[j]? = some e → p.1 = e.key ∧ Rep cx false p.2 e.val) ∧
      ∃ m, ρc x = .map m ∧ ((m = none ∧ ents = []) ∨ ∃ r c, m = some r ∧ cx.w.heap[r]? = some (.map ents.toArray c)) := by
    unfold mapEs at hes
    split at hes
    · rename_i h' e'
      split at hes
      · rename_i es' hk'
        cases hes
        rw [e'] at hx
        generalize hy : ρc x = y at hx
        cases hx with
        | hm _ bl hk'' hf =>
          obtain ⟨b1, b2, ents, b3, b4, b5⟩ := h1.blk h' _ (h2 ▸ hk')
          exact ⟨ents, b4, fun j p e a b => let ⟨c1, c2, c3⟩ := b5 j p e a b; ⟨c1, c2⟩, _, rfl, .inr ⟨_, ents.length, rfl, b3⟩⟩
      · cases hes
    · rename_i h' e'
      split at hes
      · rename_i es' hk'
        cases hes
        rw [e'] at hx
        generalize hy : ρc x = y at hx
        cases hx with
        | hg _ bl hk'' hf =>
          obtain ⟨b1, b2, ents, c, b3, b4, b5, b6⟩ := h1.blk h' _ (h2 ▸ hk')
          exact ⟨ents, b4, b5, _, rfl, .inr ⟨_, c, rfl, b3⟩⟩
      · cases hes
    · rename_i e'
      cases hes
      rw [e'] at hx
      exact ⟨[], rfl, fun j p e a b => by simp at a, none, hx.v_inv, .inl ⟨rfl, rfl⟩⟩
    · cases hes
  obtain ⟨ents, hl, hrel, m, hy, hm'⟩ := hents
  have hck := run_checkKey_plainK (P := P) hku hd ents.toArray.isEmpty k cx.w
  have hfin : ∃ rr, Instr.findNow d k ents 0 = some rr ∧ ((rr = none ∧ r = none) ∨ ∃ n v xx, rr = some (n, v) ∧ r = some xx ∧ Rep cx false xx v) := by
    rcases find_rep 0 hl hrel hr with ⟨rfl, hf⟩ | ⟨xx, v, n, rfl, hf, hv⟩
    · exact ⟨none, hf, .inl ⟨rfl, rfl⟩⟩
    · exact ⟨some (n, v), hf, .inr ⟨n, v, xx, rfl, rfl, hv⟩⟩
  obtain ⟨rr, hfn, hcase⟩ := hfin
  have hfk : (Instr.findKey kt k ents).run P cx.w = .ok rr cx.w := by simp [Instr.findKey, run_underlying hku, hfn]
  have hnt : ∀ (a b : AV) (ya yb : Value), Rep cx false a ya → Rep cx false b yb → Rep cx false (.tup [a, b]) (.tuple #[ya, yb]) := fun a b ya yb ha hb => rep_tup (((RepL.nil cx false).cons hb).cons ha)
  have hrun : ∀ v b, (match rr with | some (_, v) => (v, true) | none => (z, false)) = (v, b) → (execOp ρc o).run P cx.w = .ok (.value (if ok then .tuple #[v, .bool b] else v)) cx.w := by
    intro v b hvb
    rcases hm' with ⟨rfl, rfl⟩ | ⟨r', c, rfl, hh⟩
    · have hck' : (Instr.checkKey true 10000 kt k).run P cx.w = .ok () cx.w := hck
      rcases hcase with ⟨rfl, rfl⟩ | ⟨n, v', xx, rfl, rfl, hv⟩
      · simp at hvb; obtain ⟨rfl, rfl⟩ := hvb
        simp [execOp, ho, Instr.lookup, run_underlying hu, hy, hi', hck', hfk, run_zeroOf hz]
      · simp at hvb; obtain ⟨rfl, rfl⟩ := hvb
        simp [execOp, ho, Instr.lookup, run_underlying hu, hy, hi', hck', hfk]
    · rcases hcase with ⟨rfl, rfl⟩ | ⟨n, v', xx, rfl, rfl, hv⟩
      · simp at hvb; obtain ⟨rfl, rfl⟩ := hvb
        simp only [execOp, ho, Instr.lookup, Sem.run_bind, run_underlying hu, Result.andThen_ok, hy, run_getObj_map P hh, Sem.run_pure, hi', hck, hfk, List.toList_toArray, run_zeroOf hz]
      · simp at hvb; obtain ⟨rfl, rfl⟩ := hvb
        simp only [execOp, ho, Instr.lookup, Sem.run_bind, run_underlying hu, Result.andThen_ok, hy, run_getObj_map P hh, Sem.run_pure, hi', hck, hfk, List.toList_toArray]
  rcases hcase with ⟨rfl, rfl⟩ | ⟨n, v', xx, rfl, rfl, hv⟩
  · refine ⟨_, _, hrun z false rfl, ?_, hK⟩
    cases ok
    · simpa using avZ_rep cx false z
    · simpa using hnt _ _ _ _ (avZ_rep cx false z) (.v (.bool false))
  · refine ⟨_, _, hrun v' true rfl, ?_, hK⟩
    cases ok
    · simpa using hv
    · simpa using hnt _ _ _ _ hv (.v (.bool true))
theorem put_mapg {B : Nat} {w0 : World} {cx : Cx} (h1 : HRel B w0 cx) {h' : Nat} {es es' : List (Value × AV)} {ents2 : List MapEntry} {c2 : Nat} (hk : cx.H[h']? = some (.mapg es)) (hl : es'.length = ents2.length)
    (hrel : ∀ (j : Nat) p e, es'[j]? = some p → ents2[j]? = some e → p.1 = e.key ∧ Rep cx false p.2 e.val) (hb1 : ∀ x ∈ ents2, x.born < c2) (hb2 : (ents2.map (·.born)).Nodup) :
    HRel B w0 (cx.put h' { cx.w with heap := cx.w.heap.setIfInBounds (cx.κ h') (.map ents2.toArray c2) } (.mapg es')) ∧ Le cx (cx.put h' { cx.w with heap := cx.w.heap.setIfInBounds (cx.κ h') (.map ents2.toArray c2) } (.mapg es')) := by
  obtain ⟨b1, b2, ents, c, b3, b4, b5, b6⟩ := h1.blk h' _ hk
  have hlt : cx.κ h' < cx.w.heap.size := (Array.getElem?_eq_some_iff.1 b3).1
  have hw : ∀ i, i ≠ cx.κ h' → i < cx.w.heap.size → (cx.w.heap.setIfInBounds (cx.κ h') (.map ents2.toArray c2))[i]? = cx.w.heap[i]? := fun i hi _ => Array.getElem?_setIfInBounds_ne (fun e => hi e.symm)
  have hle := le_put (cx := cx) (bl := .mapg es') (w' := { cx.w with heap := cx.w.heap.setIfInBounds (cx.κ h') (.map ents2.toArray c2) }) hk hw b2 (.inl ⟨rfl, rfl⟩)
  refine ⟨hrel_put h1 hk rfl ⟨rfl, rfl, rfl, by simp, fun i hi => hw i (by omega) (by have := h1.base; omega)⟩ hw hle ⟨b1, b2, ents2, c2, ?_, hl, fun j p e a b => ?_, hb1, hb2⟩, hle⟩
  · exact Array.getElem?_setIfInBounds_self_of_lt hlt
  · obtain ⟨q1, q2⟩ := hrel j p e a b
    exact ⟨q1, q2.mono hle⟩
theorem sound_mapUpdateG {t : TypeId} {m i x : Operand} (ho : o.op = .mapUpdate t m i x ∨ o.op = .insert t m i x) {d : TypeDesc} {z : Value} {h' : Nat} {es es' : List (Value × AV)} {k : Value} (hm : mapOf P t = some (d, z)) (e' : ρ m = .hg h')
    (hk' : H[h']? = some (.mapg es)) (hk : keyA (ρ i) = some k) (hset : mset d k (ρ x) es = some es') (hK : K (.tup []) (H.set h' (.mapg es'))) : OpSem P o ρ H K pan := by
  obtain ⟨kt, e, hu, hku, hz, hd⟩ := mapOf_spec hm
  refine opsem_skip fun B w0 cx ρc h1 h2 h3 => ?_
  have hops : m ∈ o.op.operands ∧ i ∈ o.op.operands ∧ x ∈ o.op.operands := by rcases ho with ho | ho <;> simp [Op.operands, ho]
  have hmr := h3 m hops.1
  have hir := h3 i hops.2.1
  have hxr := h3 x hops.2.2
  have hi' : ρc i = k := by
    generalize ρ i = a at hk hir
    cases a <;> simp [keyA] at hk; subst hk; exact hir.v_inv
  rw [e'] at hmr
  generalize hy : ρc m = y at hmr
  cases hmr with
  | hg _ bl hk'' hf =>
    have hkk : cx.H[h']? = some (.mapg es) := h2 ▸ hk'
    obtain ⟨b1, b2, ents, c, b3, b4, b5, b6, b7⟩ := h1.blk h' _ hkk
    have hck := run_checkKey_plainK (P := P) hku hd false k cx.w
    have base : (execOp ρc o).run P cx.w = ((Instr.mapUpdate t (.map (some (cx.κ h'))) k (ρc x)).run P cx.w).andThen fun _ w => .ok .skip w := by
      rcases ho with ho | ho <;> simp [execOp, ho, hy, hi']
    have setObj_run : ∀ (es2 : Array MapEntry) (c2 : Nat), (setObj (cx.κ h') (.map es2 c2)).run P cx.w = .ok () { cx.w with heap := cx.w.heap.setIfInBounds (cx.κ h') (.map es2 c2) } := fun es2 c2 => by
      simp [setObj, Sem.run, b3]
    have fin : ∀ (ents2 : List MapEntry) (c2 : Nat), es'.length = ents2.length → (∀ (j : Nat) p e, es'[j]? = some p → ents2[j]? = some e → p.1 = e.key ∧ Rep cx false p.2 e.val) → (∀ x ∈ ents2, x.born < c2) → (ents2.map (·.born)).Nodup →
        (Instr.mapUpdate t (.map (some (cx.κ h'))) k (ρc x)).run P cx.w = .ok () { cx.w with heap := cx.w.heap.setIfInBounds (cx.κ h') (.map ents2.toArray c2) } →
        ∃ cx', (execOp ρc o).run P cx.w = .ok .skip cx'.w ∧ HRel B w0 cx' ∧ Le cx cx' ∧ K (.tup []) cx'.H := by
      intro ents2 c2 hl hrel n1 n2 hrun
      obtain ⟨p1, p2⟩ := put_mapg h1 hkk hl hrel n1 n2
      exact ⟨_, by rw [base, hrun]; rfl, p1, p2, by show K _ (cx.H.set h' _); rw [h2]; exact hK⟩
    rcases set_rep (cx := cx) hxr c 0 b4 b5 hset with ⟨n, v, e0, a1, a2, a3, a4, a5⟩ | ⟨a1, a2⟩
    · have hfk : (Instr.findKey kt k ents).run P cx.w = .ok (some (n, v)) cx.w := by simp [Instr.findKey, run_underlying hku, a1]
      have hks : (Instr.keyThatStays e0.key k).run P cx.w = .ok k cx.w := by simp [Instr.keyThatStays, a3]
      have hborn : (ents.modify n fun e => { e with key := k, val := ρc x }).map (·.born) = ents.map (·.born) := by
        apply List.ext_getElem?
        intro j
        rw [List.getElem?_map, List.getElem?_map, List.getElem?_modify]
        cases ents[j]? with
        | none => rfl
        | some q => simp only [Option.map_eq_map, Option.map_some]; split <;> rfl
      refine fin (ents.modify n fun e => { e with key := k, val := ρc x }) c (by simpa using a4) a5 (fun q hq => ?_) (by rw [hborn]; exact b7) ?_
      · have : q.born ∈ ents.map (·.born) := by rw [← hborn]; exact List.mem_map_of_mem hq
        obtain ⟨q', hq', e'⟩ := List.mem_map.1 this
        rw [← e']; exact b6 q' hq'
      · simp only [Instr.mapUpdate, Sem.run_bind, run_underlying hu, Result.andThen_ok, run_getObj_map P b3, hck, List.toList_toArray, hfk, List.getElem?_toArray, a2, Option.map_some, Option.getD_some, hks, setObj_run]
        simp
    · have hfk : (Instr.findKey kt k ents).run P cx.w = .ok none cx.w := by simp [Instr.findKey, run_underlying hku, a1]
      refine fin (ents ++ [{ key := k, val := ρc x, born := c }]) (c + 1) (by rw [a2]; simp [b4]) (fun j p e a b => ?_) (fun q hq => ?_) ?_ ?_
      · rw [a2] at a
        rw [List.getElem?_append] at a b
        by_cases hj : j < es.length
        · rw [if_pos hj] at a; rw [if_pos (by omega)] at b
          exact b5 j p e a b
        · rw [if_neg hj] at a; rw [if_neg (by omega)] at b
          rw [b4] at a
          cases hjj : j - ents.length with
          | zero => rw [hjj] at a b; simp at a b; subst a; subst b; exact ⟨rfl, hxr⟩
          | succ q => rw [hjj] at a; simp at a
      · rcases List.mem_append.1 hq with hq | hq
        · have := b6 q hq; omega
        · rw [List.mem_singleton] at hq; subst hq; exact Nat.lt_succ_self _
      · rw [List.map_append, List.nodup_append]
        refine ⟨b7, by simp, fun a ha b hb e => ?_⟩
        obtain ⟨q, hq, rfl⟩ := List.mem_map.1 ha
        have := b6 q hq
        simp only [List.map_cons, List.map_nil, List.mem_singleton] at hb
        omega
      · simp only [Instr.mapUpdate, Sem.run_bind, run_underlying hu, Result.andThen_ok, run_getObj_map P b3, hck, List.toList_toArray, hfk, setObj_run]
        simp
def mdel (d : TypeDesc) (key : Value) : List (Value × AV) → Option (List (Value × AV))
  | [] => some []
  | (k, v) :: rest => match Instr.sameNow d key k with
    | some true => some rest
    | some false => (mdel d key rest).map ((k, v) :: ·)
    | none => none
theorem del_rep {d : TypeDesc} {key : Value} : ∀ {es out : List (Value × AV)} {ents : List MapEntry} (i : Nat), es.length = ents.length →
    (∀ (j : Nat) p e, es[j]? = some p → ents[j]? = some e → p.1 = e.key) → mdel d key es = some out →
    (∃ n v, Instr.findNow d key ents i = some (some (i + n, v)) ∧ n < ents.length ∧ out = es.eraseIdx n) ∨ (Instr.findNow d key ents i = some none ∧ out = es)
  | [], out, [], i, _, _, h => by simp [mdel] at h; subst h; exact .inr ⟨rfl, rfl⟩
  | [], _, _ :: _, _, hl, _, _ => by simp at hl
  | _ :: _, _, [], _, hl, _, _ => by simp at hl
  | (k, v) :: es, out, e :: ents, i, hl, hr, h => by
    have h1 := hr 0 _ _ rfl rfl
    simp only at h1
    subst h1
    unfold mdel at h
    unfold Instr.findNow
    split at h
    · rename_i hs; simp at h; subst h; rw [hs]
      exact .inl ⟨0, e.val, rfl, by simp, rfl⟩
    · rename_i hs; rw [hs]
      rw [Option.map_eq_some_iff] at h
      obtain ⟨out', ho, rfl⟩ := h
      rcases del_rep (i + 1) (by simpa using hl) (fun j p q a b => hr (j + 1) p q (by simpa using a) (by simpa using b)) ho with ⟨n, v', a1, a2, a3⟩ | ⟨a1, a2⟩
      · refine .inl ⟨n + 1, v', by rw [a1, show i + 1 + n = i + (n + 1) by omega], by simpa using a2, by rw [a3]; rfl⟩
      · exact .inr ⟨a1, by rw [a2]⟩
    · cases h
theorem sound_deleteG {m i : Operand} {t t' : TypeId} (ho : o.op = .call { callee := .builtin .delete, args := #[m, i], argTypes := #[t, t'] }) {d : TypeDesc} {z : Value} {h' : Nat} {es es' : List (Value × AV)} {k : Value} (hm : mapOf P t = some (d, z)) (e' : ρ m = .hg h')
    (hk' : H[h']? = some (.mapg es)) (hk : keyA (ρ i) = some k) (hdel : mdel d k es = some es') (hK : K (.tup []) (H.set h' (.mapg es'))) : OpSem P o ρ H K pan := by
  obtain ⟨kt, e, hu, hku, hz, hd⟩ := mapOf_spec hm
  refine opsem_val fun B w0 cx ρc h1 h2 h3 => ?_
  have hmr := h3 m (by simp [Op.operands, Call.operands, ho])
  have hir := h3 i (by simp [Op.operands, Call.operands, ho])
  have hi' : ρc i = k := by
    generalize ρ i = a at hk hir
    cases a <;> simp [keyA] at hk; subst hk; exact hir.v_inv
  rw [e'] at hmr
  generalize hy : ρc m = y at hmr
  cases hmr with
  | hg _ bl hk'' hf =>
    have hkk : cx.H[h']? = some (.mapg es) := h2 ▸ hk'
    obtain ⟨b1, b2, ents, c, b3, b4, b5, b6, b7⟩ := h1.blk h' _ hkk
    have hck := run_checkKey_plainK (P := P) hku hd ents.toArray.isEmpty k cx.w
    have base : (execOp ρc o).run P cx.w = ((Builtin.delete_ #[t, t'] o.type #[.map (some (cx.κ h')), k]).run P cx.w).andThen fun v w => .ok (.value v) w := by
      simp [execOp, ho, resolve, invoke, builtin, hy, hi']
    have setObj_run : ∀ (es2 : Array MapEntry) (c2 : Nat), (setObj (cx.κ h') (.map es2 c2)).run P cx.w = .ok () { cx.w with heap := cx.w.heap.setIfInBounds (cx.κ h') (.map es2 c2) } := fun es2 c2 => by
      simp [setObj, Sem.run, b3]
    have fin : ∀ (ents2 : List MapEntry), es'.length = ents2.length → (∀ (j : Nat) p e, es'[j]? = some p → ents2[j]? = some e → p.1 = e.key ∧ Rep cx false p.2 e.val) → (∀ x ∈ ents2, x.born < c) → (ents2.map (·.born)).Nodup →
        (Builtin.delete_ #[t, t'] o.type #[.map (some (cx.κ h')), k]).run P cx.w = .ok (.tuple #[]) { cx.w with heap := cx.w.heap.setIfInBounds (cx.κ h') (.map ents2.toArray c) } →
        ∃ cx' r y, (execOp ρc o).run P cx.w = .ok (.value y) cx'.w ∧ HRel B w0 cx' ∧ Le cx cx' ∧ Rep cx' false r y ∧ K r cx'.H := by
      intro ents2 hl hrel n1 n2 hrun
      obtain ⟨p1, p2⟩ := put_mapg h1 hkk hl hrel n1 n2
      exact ⟨_, .tup [], .tuple #[], by rw [base, hrun]; rfl, p1, p2, .tup [] [] rfl (fun j c x a b => by simp at a), by show K _ (cx.H.set h' _); rw [h2]; exact hK⟩
    rcases del_rep 0 b4 (fun j p e a b => (b5 j p e a b).1) hdel with ⟨n, v, a1, a2, a3⟩ | ⟨a1, a2⟩
    · have hfk : (Instr.findKey kt k ents).run P cx.w = .ok (some (n, v)) cx.w := by simp [Instr.findKey, run_underlying hku, a1]
      refine fin (ents.eraseIdx n) (by rw [a3, List.length_eraseIdx, List.length_eraseIdx, b4]) (fun j p e a b => ?_) (fun q hq => b6 q (List.mem_of_mem_eraseIdx hq)) (b7.sublist ((List.eraseIdx_sublist ents n).map _)) ?_
      · rw [a3, List.getElem?_eraseIdx] at a
        rw [List.getElem?_eraseIdx] at b
        split at a
        · rename_i hj; rw [if_pos hj] at b; exact b5 _ p e a b
        · rename_i hj; rw [if_neg hj] at b; exact b5 _ p e a b
      · have e1 : ents.toArray.eraseIdxIfInBounds n = (ents.eraseIdx n).toArray := by simp
        simp only [Builtin.delete_, List.getElem?_toArray, List.getElem?_cons_zero, List.getElem?_cons_succ, Sem.run_bind, run_underlying hu, Result.andThen_ok, run_getObj_map P b3, hck, List.toList_toArray, hfk, e1, setObj_run]
        simp
    · have hfk : (Instr.findKey kt k ents).run P cx.w = .ok none cx.w := by simp [Instr.findKey, run_underlying hku, a1]
      refine fin ents (by rw [a2, b4]) (by rw [a2]; exact b5) b6 b7 ?_
      simp only [Builtin.delete_, List.getElem?_toArray, List.getElem?_cons_zero, List.getElem?_cons_succ, Sem.run_bind, run_underlying hu, Result.andThen_ok, run_getObj_map P b3, hck, List.toList_toArray, hfk, setObj_run]
      simp
theorem sound_mapUpdate {t : TypeId} {m i x : Operand} (ho : o.op = .mapUpdate t m i x ∨ o.op = .insert t m i x)
    (h : bindO (mapOf P t) fun mm => match ρ m with
      | .hm h => bindO (mapEs H (.hm h)) fun es => bindO (keyA (ρ i)) fun k => bindO (mset mm.1 k (ρ x) es) fun es' => K (.tup []) (H.set h (.map es'))
      | .hg h => bindO (mapEs H (.hg h)) fun es => bindO (keyA (ρ i)) fun k => bindO (mset mm.1 k (ρ x) es) fun es' => K (.tup []) (H.set h (.mapg es'))
      | _ => False) : OpSem P o ρ H K pan := by
  obtain ⟨⟨d, z⟩, hm, h⟩ := h
  obtain ⟨kt, e, hu, hku, hz, hd⟩ := mapOf_spec hm
  split at h
  rotate_left
  · rename_i h' e'
    obtain ⟨es, hes, k, hk, es', hset, hK⟩ := h
    simp only [mapEs] at hes
    split at hes
    · rename_i es0 hk'
      cases hes
      exact sound_mapUpdateG ho hm e' hk' hk hset hK
    · cases hes
  rotate_left
  · rename_i h' e'
    obtain ⟨es, hes, k, hk, es', hset, hK⟩ := h
    refine opsem_skip fun B w0 cx ρc h1 h2 h3 => ?_
    have hops : m ∈ o.op.operands ∧ i ∈ o.op.operands ∧ x ∈ o.op.operands := by rcases ho with ho | ho <;> simp [Op.operands, ho]
    have hmr := h3 m hops.1
    have hir := h3 i hops.2.1
    have hxr := h3 x hops.2.2
    have hi' : ρc i = k := by
      generalize ρ i = a at hk hir
      cases a <;> simp [keyA] at hk; subst hk; exact hir.v_inv
    simp only [mapEs] at hes
    split at hes
    · rename_i es0 hk'
      cases hes
      rw [e'] at hmr
      generalize hy : ρc m = y at hmr
      cases hmr with
      | hm _ bl hk'' hf =>
        obtain ⟨b1, b2, ents, b3, b4, b5⟩ := h1.blk h' _ (h2 ▸ hk')
        have hkk : cx.H[h']? = some (.map es) := h2 ▸ hk'
        have hck := run_checkKey_plainK (P := P) hku hd false k cx.w
        have base : (execOp ρc o).run P cx.w = ((Instr.mapUpdate t (.map (some (cx.κ h'))) k (ρc x)).run P cx.w).andThen fun _ w => .ok .skip w := by
          rcases ho with ho | ho <;> simp [execOp, ho, hy, hi']
        have setObj_run : ∀ (es2 : Array MapEntry) (c2 : Nat), (setObj (cx.κ h') (.map es2 c2)).run P cx.w = .ok () { cx.w with heap := cx.w.heap.setIfInBounds (cx.κ h') (.map es2 c2) } := fun es2 c2 => by
          simp [setObj, Sem.run, b3]
        have fin : ∀ (ents2 : List MapEntry) (c2 : Nat), c2 = ents2.length → es'.length = ents2.length → (∀ (j : Nat) p e, es'[j]? = some p → ents2[j]? = some e → p.1 = e.key ∧ Rep cx false p.2 e.val ∧ e.born = j) →
            (Instr.mapUpdate t (.map (some (cx.κ h'))) k (ρc x)).run P cx.w = .ok () { cx.w with heap := cx.w.heap.setIfInBounds (cx.κ h') (.map ents2.toArray c2) } →
            ∃ cx', (execOp ρc o).run P cx.w = .ok .skip cx'.w ∧ HRel B w0 cx' ∧ Le cx cx' ∧ K (.tup []) cx'.H := by
          intro ents2 c2 hc2 hl hrel hrun
          subst hc2
          have hlt : cx.κ h' < cx.w.heap.size := (Array.getElem?_eq_some_iff.1 b3).1
          have hw : ∀ i, i ≠ cx.κ h' → i < cx.w.heap.size → (cx.w.heap.setIfInBounds (cx.κ h') (.map ents2.toArray ents2.length))[i]? = cx.w.heap[i]? := fun i hi _ => Array.getElem?_setIfInBounds_ne (fun e => hi e.symm)
          have hle := le_put (cx := cx) (bl := .map es') (w' := { cx.w with heap := cx.w.heap.setIfInBounds (cx.κ h') (.map ents2.toArray ents2.length) }) hkk hw b2 (.inl ⟨rfl, rfl⟩)
          refine ⟨cx.put h' { cx.w with heap := cx.w.heap.setIfInBounds (cx.κ h') (.map ents2.toArray ents2.length) } (.map es'), ?_, ?_, hle, ?_⟩
          · rw [base, hrun]; rfl
          · refine hrel_put h1 hkk rfl ⟨rfl, rfl, rfl, by simp, fun i hi => hw i (by omega) (by have := h1.base; omega)⟩ hw hle ⟨b1, b2, ents2, ?_, hl, fun j p e a b => ?_⟩
            · exact Array.getElem?_setIfInBounds_self_of_lt hlt
            · obtain ⟨q1, q2, q3⟩ := hrel j p e a b
              exact ⟨q1, q2.mono hle, q3⟩
          · show K _ (cx.H.set h' _); rw [h2]; exact hK
        rcases set_rep (cx := cx) hxr ents.length 0 b4 (fun j p e a b => let ⟨c1, c2, c3⟩ := b5 j p e a b; ⟨c1, c2⟩) hset with ⟨n, v, e0, a1, a2, a3, a4, a5⟩ | ⟨a1, a2⟩
        · have hfk : (Instr.findKey kt k ents).run P cx.w = .ok (some (n, v)) cx.w := by simp [Instr.findKey, run_underlying hku, a1]
          have hks : (Instr.keyThatStays e0.key k).run P cx.w = .ok k cx.w := by simp [Instr.keyThatStays, a3]
          refine fin (ents.modify n fun e => { e with key := k, val := ρc x }) ents.length (by simp) (by simpa using a4) (fun j p e a b => ?_) ?_
          · obtain ⟨q1, q2⟩ := a5 j p e a b
            refine ⟨q1, q2, ?_⟩
            rw [List.getElem?_modify, Option.map_eq_map, Option.map_eq_some_iff] at b
            obtain ⟨e1, he1, rfl⟩ := b
            have hj : j < es.length := by rw [b4]; exact (List.getElem?_eq_some_iff.1 he1).1
            have := (b5 j _ e1 (List.getElem?_eq_getElem hj) he1).2.2
            split <;> exact this
          · simp only [Instr.mapUpdate, Sem.run_bind, run_underlying hu, Result.andThen_ok, run_getObj_map P b3, hck, List.toList_toArray, hfk, List.getElem?_toArray, a2, Option.map_some, Option.getD_some, hks, setObj_run]
            simp
        · have hfk : (Instr.findKey kt k ents).run P cx.w = .ok none cx.w := by simp [Instr.findKey, run_underlying hku, a1]
          refine fin (ents ++ [{ key := k, val := ρc x, born := ents.length }]) (ents.length + 1) (by simp) (by rw [a2]; simp [b4]) (fun j p e a b => ?_) ?_
          · rw [a2] at a
            rw [List.getElem?_append] at a b
            by_cases hj : j < es.length
            · rw [if_pos hj] at a; rw [if_pos (by omega)] at b
              obtain ⟨q1, q2, q3⟩ := b5 j p e a b
              exact ⟨q1, q2, q3⟩
            · rw [if_neg hj] at a; rw [if_neg (by omega)] at b
              rw [b4] at a
              cases hjj : j - ents.length with
              | zero => rw [hjj] at a b; simp at a b; subst a; subst b; exact ⟨rfl, hxr, by show ents.length = j; omega⟩
              | succ q => rw [hjj] at a; simp at a
          · simp only [Instr.mapUpdate, Sem.run_bind, run_underlying hu, Result.andThen_ok, run_getObj_map P b3, hck, List.toList_toArray, hfk, setObj_run]
            simp
    · cases hes
  · exact h.elim
def midx (d : TypeDesc) (key : Value) : List (Value × AV) → Nat
  | [] => 0
  | (k, _) :: rest => match Instr.sameNow d key k with
    | some true => 0
    | _ => midx d key rest + 1
theorem ent_rep {cx : Cx} {d : TypeDesc} {key : Value} {z : AV} : ∀ {es out : List (Value × AV)} {ents : List MapEntry} {r : Option AV} (i : Nat), es.length = ents.length →
    (∀ (j : Nat) p e, es[j]? = some p → ents[j]? = some e → p.1 = e.key ∧ Rep cx false p.2 e.val) → mfind d key es = some r → mset d key (r.getD z) es = some out →
    (∃ n v e x, r = some x ∧ Instr.findNow d key ents i = some (some (i + n, v)) ∧ ents[n]? = some e ∧ Instr.sameBits 10000 e.key key = true ∧ midx d key es = n ∧ Rep cx false x v ∧ out.length = ents.length ∧
      (∀ (j : Nat) p e', out[j]? = some p → (ents.modify n fun e => { e with key := key })[j]? = some e' → p.1 = e'.key ∧ Rep cx false p.2 e'.val)) ∨
    (r = none ∧ Instr.findNow d key ents i = some none ∧ out = es ++ [(key, z)] ∧ midx d key es = es.length)
  | [], out, [], r, i, _, _, hf, h => by simp [mfind] at hf; subst hf; simp [mset] at h; subst h; exact .inr ⟨rfl, rfl, rfl, rfl⟩
  | [], _, _ :: _, _, _, hl, _, _, _ => by simp at hl
  | _ :: _, _, [], _, _, hl, _, _, _ => by simp at hl
  | (k, v) :: es, out, e :: ents, r, i, hl, hr, hf, h => by
    obtain ⟨h1, h2⟩ := hr 0 _ _ rfl rfl
    simp only at h1 h2
    subst h1
    unfold mset at h
    unfold mfind at hf
    unfold Instr.findNow midx
    split at h
    · rename_i hs; rw [hs] at hf; simp at hf h; subst hf; subst h; rw [hs]
      obtain ⟨e1, e2⟩ := sameNow_true hs
      refine .inl ⟨0, e.val, e, v, rfl, rfl, rfl, e2, rfl, h2, by simpa using hl, fun j p e' a b => ?_⟩
      cases j with
      | zero => simp at a b; subst a; subst b; exact ⟨rfl, h2⟩
      | succ j => simp at a b; exact hr (j + 1) p e' (by simpa using a) (by simpa using b)
    · rename_i hs; rw [hs] at hf; rw [hs]
      rw [Option.map_eq_some_iff] at h
      obtain ⟨out', ho, rfl⟩ := h
      rcases ent_rep (i + 1) (by simpa using hl) (fun j p q a b => hr (j + 1) p q (by simpa using a) (by simpa using b)) hf ho with ⟨n, v', e', x, a0, a1, a2, a3, a3', a3'', a4, a5⟩ | ⟨a0, a1, a2, a3⟩
      · refine .inl ⟨n + 1, v', e', x, a0, by rw [a1, show i + 1 + n = i + (n + 1) by omega], a2, a3, by simp only; rw [a3'], a3'', by simpa using a4, fun j p e'' a b => ?_⟩
        cases j with
        | zero => simp at a b; subst a; subst b; exact ⟨rfl, h2⟩
        | succ j => simp at a b; exact a5 j p e'' a b
      · exact .inr ⟨a0, a1, by rw [a2]; rfl, by simp only; rw [a3]; rfl⟩
    · cases h
def entV (H : List Blk) (m : AV) (k : Option Value) (mm : TypeDesc × Value) (K : AV → List Blk → Prop) : Prop :=
  match m with
  | .hm h => bindO (mapEs H (.hm h)) fun es => bindO k fun k => bindO (mfind mm.1 k es) fun r => bindO (mset mm.1 k (r.getD (assertV.avZ mm.2)) es) fun es' =>
      K (.tup [r.getD (assertV.avZ mm.2), .v (.int .i64 (midx mm.1 k es))]) (H.set h (.map es'))
  | _ => False
theorem modify_cells {ents : List MapEntry} {f : MapEntry → MapEntry} {n j : Nat} {e' : MapEntry} (h : (ents.modify n f)[j]? = some e') : ∃ e, ents[j]? = some e ∧ e' = if n = j then f e else e := by
  rw [List.getElem?_modify, Option.map_eq_map, Option.map_eq_some_iff] at h
  obtain ⟨e, h1, h2⟩ := h
  exact ⟨e, h1, by rw [← h2]⟩
theorem put_map {B : Nat} {w0 : World} {cx : Cx} (h1 : HRel B w0 cx) {h' : Nat} {es es' : List (Value × AV)} {ents2 : List MapEntry} (hk : cx.H[h']? = some (.map es)) (hl : es'.length = ents2.length)
    (hrel : ∀ (j : Nat) p e, es'[j]? = some p → ents2[j]? = some e → p.1 = e.key ∧ Rep cx false p.2 e.val ∧ e.born = j) :
    HRel B w0 (cx.put h' { cx.w with heap := cx.w.heap.setIfInBounds (cx.κ h') (.map ents2.toArray ents2.length) } (.map es')) ∧ Le cx (cx.put h' { cx.w with heap := cx.w.heap.setIfInBounds (cx.κ h') (.map ents2.toArray ents2.length) } (.map es')) := by
  obtain ⟨b1, b2, ents, b3, b4, b5⟩ := h1.blk h' _ hk
  have hlt : cx.κ h' < cx.w.heap.size := (Array.getElem?_eq_some_iff.1 b3).1
  have hw : ∀ i, i ≠ cx.κ h' → i < cx.w.heap.size → (cx.w.heap.setIfInBounds (cx.κ h') (.map ents2.toArray ents2.length))[i]? = cx.w.heap[i]? := fun i hi _ => Array.getElem?_setIfInBounds_ne (fun e => hi e.symm)
  have hle := le_put (cx := cx) (bl := .map es') (w' := { cx.w with heap := cx.w.heap.setIfInBounds (cx.κ h') (.map ents2.toArray ents2.length) }) hk hw b2 (.inl ⟨rfl, rfl⟩)
  refine ⟨hrel_put h1 hk rfl ⟨rfl, rfl, rfl, by simp, fun i hi => hw i (by omega) (by have := h1.base; omega)⟩ hw hle ⟨b1, b2, ents2, ?_, hl, fun j p e a b => ?_⟩, hle⟩
  · exact Array.getElem?_setIfInBounds_self_of_lt hlt
  · obtain ⟨q1, q2, q3⟩ := hrel j p e a b
    exact ⟨q1, q2.mono hle, q3⟩
theorem sound_mapEntry {t : TypeId} {m i : Operand} (ho : o.op = .mapEntry t m i) (h : bindO (mapOf P t) fun mm => entV H (ρ m) (keyA (ρ i)) mm K) : OpSem P o ρ H K pan := by
  obtain ⟨⟨d, z⟩, hm, h⟩ := h
  obtain ⟨kt, e, hu, hku, hz, hd⟩ := mapOf_spec hm
  unfold entV at h
  split at h
  · rename_i h' e'
    obtain ⟨es, hes, k, hk, r, hf, es', hset, hK⟩ := h
    refine opsem_val fun B w0 cx ρc h1 h2 h3 => ?_
    have hops : m ∈ o.op.operands ∧ i ∈ o.op.operands := by simp [Op.operands, ho]
    have hmr := h3 m hops.1
    have hir := h3 i hops.2
    have hi' : ρc i = k := by
      generalize ρ i = a at hk hir
      cases a <;> simp [keyA] at hk; subst hk; exact hir.v_inv
    simp only [mapEs] at hes
    split at hes
    · rename_i es0 hk'
      cases hes
      rw [e'] at hmr
      generalize hy : ρc m = y at hmr
      cases hmr with
      | hm _ bl hk'' hf' =>
        obtain ⟨b1, b2, ents, b3, b4, b5⟩ := h1.blk h' _ (h2 ▸ hk')
        have hkk : cx.H[h']? = some (.map es) := h2 ▸ hk'
        have hck := run_checkKey_plainK (P := P) hku hd false k cx.w
        have base : (execOp ρc o).run P cx.w = ((Instr.mapEntry t (.map (some (cx.κ h'))) k).run P cx.w).andThen fun v w => .ok (.value v) w := by
          simp [execOp, ho, hy, hi']
        have setObj_run : ∀ (es2 : Array MapEntry) (c2 : Nat), (setObj (cx.κ h') (.map es2 c2)).run P cx.w = .ok () { cx.w with heap := cx.w.heap.setIfInBounds (cx.κ h') (.map es2 c2) } := fun es2 c2 => by
          simp [setObj, Sem.run, b3]
        have b5' : ∀ (j : Nat) p e, es[j]? = some p → ents[j]? = some e → p.1 = e.key ∧ Rep cx false p.2 e.val := fun j p e a b => let ⟨c1, c2, c3⟩ := b5 j p e a b; ⟨c1, c2⟩
        rcases ent_rep (cx := cx) 0 b4 b5' hf hset with ⟨n, v, e0, x, a0, a1, a2, a3, a3', a3'', a4, a5⟩ | ⟨a0, a1, a2, a3⟩
        · have hfk : (Instr.findKey kt k ents).run P cx.w = .ok (some (n, v)) cx.w := by simp [Instr.findKey, run_underlying hku, a1]
          have hks : (Instr.keyThatStays e0.key k).run P cx.w = .ok k cx.w := by simp [Instr.keyThatStays, a3]
          have hnl : n < es.length := by rw [b4]; exact (List.getElem?_eq_some_iff.1 a2).1
          have hborn : e0.born = n := (b5 n _ e0 (List.getElem?_eq_getElem hnl) a2).2.2
          obtain ⟨p1, p2⟩ := put_map h1 hkk (es' := es') (ents2 := ents.modify n fun e => { e with key := k }) (by simpa using a4) (fun j p e a b => by
            obtain ⟨q1, q2⟩ := a5 j p e a b
            refine ⟨q1, q2, ?_⟩
            obtain ⟨e1, he1, rfl⟩ := modify_cells b
            have hj : j < es.length := by rw [b4]; exact (List.getElem?_eq_some_iff.1 he1).1
            have := (b5 j _ e1 (List.getElem?_eq_getElem hj) he1).2.2
            split <;> exact this)
          refine ⟨_, .tup [x, .v (.int .i64 (midx d k es))], .tuple #[v, goInt e0.born], ?_, p1, p2, ?_, ?_⟩
          · rw [base]
            simp only [Instr.mapEntry, Sem.run_bind, run_underlying hu, Result.andThen_ok, run_getObj_map P b3, hck, List.toList_toArray, hfk, List.getElem?_toArray, a2, Option.map_some, Option.getD_some, hks, setObj_run, Sem.run_pure, List.modify_toArray, List.length_modify]
            rfl
          · refine .tup [x, .v (.int .i64 (midx d k es))] [v, goInt e0.born] rfl ?_
            intro j c y hc hy
            match j with
            | 0 => simp at hc hy; subst hc; subst hy; exact a3''.mono p2
            | 1 => simp at hc hy; subst hc; subst hy; rw [a3', hborn]; exact .v _
            | j + 2 => simp at hc
          · subst a0
            show K _ (cx.H.set h' _); rw [h2]; exact hK
        · have hfk : (Instr.findKey kt k ents).run P cx.w = .ok none cx.w := by simp [Instr.findKey, run_underlying hku, a1]
          obtain ⟨p1, p2⟩ := put_map h1 hkk (es' := es') (ents2 := ents ++ [{ key := k, val := z, born := ents.length }]) (by rw [a2]; simp [b4]) (fun j p e a b => by
            rw [a2] at a
            rw [List.getElem?_append] at a b
            by_cases hj : j < es.length
            · rw [if_pos hj] at a; rw [if_pos (by omega)] at b
              exact b5 j p e a b
            · rw [if_neg hj] at a; rw [if_neg (by omega)] at b
              rw [b4] at a
              cases hjj : j - ents.length with
              | zero => rw [hjj] at a b; simp at a b; subst a; subst b; exact ⟨rfl, avZ_rep _ _ z, by show ents.length = j; omega⟩
              | succ q => rw [hjj] at a; simp at a)
          refine ⟨_, .tup [assertV.avZ z, .v (.int .i64 (midx d k es))], .tuple #[z, goInt ents.length], ?_, p1, p2, ?_, ?_⟩
          · rw [base]
            simp only [Instr.mapEntry, Sem.run_bind, run_underlying hu, Result.andThen_ok, run_getObj_map P b3, hck, List.toList_toArray, hfk, run_zeroOf hz, setObj_run, Sem.run_pure]
            simp [Cx.put]
          · refine .tup [assertV.avZ z, .v (.int .i64 (midx d k es))] [z, goInt ents.length] rfl ?_
            intro j c y hc hy
            match j with
            | 0 => simp at hc hy; subst hc; subst hy; exact avZ_rep _ _ z
            | 1 => simp at hc hy; subst hc; subst hy; rw [a3, b4]; exact .v _
            | j + 2 => simp at hc
          · subst a0
            show K _ (cx.H.set h' _); rw [h2]; exact hK
    · cases hes
  · exact h.elim
def entStV (H : List Blk) (m s x : AV) (K : AV → List Blk → Prop) : Prop :=
  match m with
  | .hm h => bindO (mapEs H (.hm h)) fun es => bindO (intA s) fun n => andV (0 ≤ n ∧ n < es.length) (K (.tup []) (H.set h (.map (es.modify n.toNat fun p => (p.1, x)))))
  | _ => False
theorem findIdx_at {ents : List MapEntry} (hb : ∀ (j : Nat) e, ents[j]? = some e → e.born = j) {n : Nat} (hn : n < ents.length) : ents.toArray.findIdx? (fun e => ((e.born : Nat) : Int) == (n : Int)) = some n := by
  rw [List.findIdx?_toArray, List.findIdx?_eq_some_iff_getElem]
  refine ⟨hn, ?_, fun j hj => ?_⟩
  · have := hb n _ (List.getElem?_eq_getElem hn)
    simp [this]
  · have := hb j _ (List.getElem?_eq_getElem (by omega))
    simp [this]; omega
theorem sound_entryStore {t : TypeId} {m s x : Operand} (ho : o.op = .entryStore t m s x) (h : entStV H (ρ m) (ρ s) (ρ x) K) : OpSem P o ρ H K pan := by
  unfold entStV at h
  split at h
  · rename_i h' e'
    obtain ⟨es, hes, n, hn, ⟨n0, n1⟩, hK⟩ := h
    refine opsem_skip fun B w0 cx ρc h1 h2 h3 => ?_
    have hops : m ∈ o.op.operands ∧ s ∈ o.op.operands ∧ x ∈ o.op.operands := by simp [Op.operands, ho]
    have hmr := h3 m hops.1
    have hsr := h3 s hops.2.1
    have hxr := h3 x hops.2.2
    obtain ⟨kk, hs'⟩ := intA_spec hn
    rw [hs'] at hsr
    have hs2 := hsr.v_inv
    simp only [mapEs] at hes
    split at hes
    · rename_i es0 hk'
      cases hes
      rw [e'] at hmr
      generalize hy : ρc m = y at hmr
      cases hmr with
      | hm _ bl hk'' hf' =>
        obtain ⟨b1, b2, ents, b3, b4, b5⟩ := h1.blk h' _ (h2 ▸ hk')
        have hkk : cx.H[h']? = some (.map es) := h2 ▸ hk'
        obtain ⟨q, rfl⟩ : ∃ q : Nat, n = q := ⟨n.toNat, by omega⟩
        have hql : q < ents.length := by omega
        have hidx := findIdx_at (fun j e he => (b5 j _ e (List.getElem?_eq_getElem (by rw [b4]; exact (List.getElem?_eq_some_iff.1 he).1)) he).2.2) hql
        have setObj_run : ∀ (es2 : Array MapEntry) (c2 : Nat), (setObj (cx.κ h') (.map es2 c2)).run P cx.w = .ok () { cx.w with heap := cx.w.heap.setIfInBounds (cx.κ h') (.map es2 c2) } := fun es2 c2 => by
          simp [setObj, Sem.run, b3]
        obtain ⟨p1, p2⟩ := put_map h1 hkk (es' := es.modify q fun p => (p.1, ρ x)) (ents2 := ents.modify q fun e => { e with val := ρc x }) (by simp [b4]) (fun j p e a b => by
          obtain ⟨e1, he1, rfl⟩ := modify_cells b
          rw [List.getElem?_modify, Option.map_eq_map, Option.map_eq_some_iff] at a
          obtain ⟨p0, hp0, rfl⟩ := a
          obtain ⟨c1, c2, c3⟩ := b5 j p0 e1 hp0 he1
          by_cases hj : q = j
          · simp only [hj, if_true]; exact ⟨c1, hxr, c3⟩
          · simp only [hj, if_false]; exact ⟨c1, c2, c3⟩)
        refine ⟨_, ?_, p1, p2, ?_⟩
        · have hasI : (asInt (Value.int kk (q : Int))).run P cx.w = .ok (q : Int) cx.w := by simp [asInt, asIntOf]
          simp only [execOp, ho, hy, hs2]
          simp only [Instr.entryStore, Sem.run_bind, run_getObj_map P b3, Result.andThen_ok, hasI, hidx, setObj_run, List.modify_toArray, List.length_modify]
          rfl
        · show K _ (cx.H.set h' _); rw [h2]; exact hK
    · cases hes
  · exact h.elim
def isMapT (P : Program) (t : TypeId) : Bool := match P.underlying t with | some (.map _ _) => true | _ => false
theorem isMapT_spec {P : Program} {t : TypeId} (h : isMapT P t = true) : ∃ a b, P.underlying t = some (.map a b) := by
  unfold isMapT at h
  split at h
  · rename_i a b hu; exact ⟨a, b, hu⟩
  · cases h
def rangeV (H : List Blk) (x : AV) (K : AV → List Blk → Prop) : Prop :=
  match x with
  | .hm m => bindO (mapEs H (.hm m)) fun es => K (.hi H.length) (H ++ [.it (some m) es.length []])
  | .v (.map none) => K (.hi H.length) (H ++ [.it none 0 []])
  | _ => False
theorem sound_range {t : TypeId} {x : Operand} (ho : o.op = .range t x) (h : andV (isMapT P t = true) (rangeV H (ρ x) K)) : OpSem P o ρ H K pan := by
  obtain ⟨ht, h⟩ := h
  obtain ⟨kt, et, hu⟩ := isMapT_spec ht
  refine opsem_val fun B w0 cx ρc h1 h2 h3 => ?_
  have hx := h3 x (by simp [Op.operands, ho])
  unfold rangeV at h
  have key : ∀ (km : Option Nat) (n : Nat) (m : Option Nat), km.map cx.κ = m → (∀ k, km = some k → ∃ bl, cx.H[k]? = some bl ∧ bl.fixed = true) →
      ((execOp ρc o).run P cx.w = .ok (.value (.pointer (some ⟨cx.w.heap.size, 0, none⟩))) (cx.w.alloc (.mapIter m n #[] n))) → K (.hi H.length) (H ++ [.it km n []]) →
      ∃ cx' r y, (execOp ρc o).run P cx.w = .ok (.value y) cx'.w ∧ HRel B w0 cx' ∧ Le cx cx' ∧ Rep cx' false r y ∧ K r cx'.H := by
    intro km n m hm hfx hrun hK
    have hle := le_push cx (.mapIter m n #[] n) (.it km n []) 0
    have hkm : km.map (cx.push (.mapIter m n #[] n) (.it km n []) 0).κ = m := by
      cases km with
      | none => exact hm
      | some k =>
        obtain ⟨bl, a, b⟩ := hfx k rfl
        obtain ⟨_, _, _, c⟩ := hle.fixed k bl a b
        simp only [Option.map_some] at hm ⊢
        rw [c]; exact hm
    have hpush : HRel B w0 (cx.push (.mapIter m n #[] n) (.it km n []) 0) := by
      refine hrel_push h1 _ _ _ ⟨?_, ?_, ?_, fun k hk => ?_⟩
      · show B ≤ updN _ _ _ _; simp; exact h1.base
      · show ¬ cx.Φ (updN _ _ _ _); simp; exact fun hf => Nat.lt_irrefl _ (h1.frz _ hf)
      · rw [hkm]
        show (cx.w.alloc _).heap[updN _ _ _ _]? = _; simp only [updN_same]; exact heap_alloc_new _ _
      · obtain ⟨bl, a, b⟩ := hfx k hk
        obtain ⟨bl', a', b', _⟩ := hle.fixed k bl a b
        exact ⟨bl', a', b'⟩
    refine ⟨_, .hi cx.H.length, _, hrun, hpush, hle, ?_, by rw [h2]; exact h2 ▸ hK⟩
    have e : (cx.push (.mapIter m n #[] n) (.it km n []) 0).κ cx.H.length = cx.w.heap.size := updN_same _ _ _
    rw [← e]
    exact .hi _ (.it km n []) (by simp [Cx.push]) rfl
  split at h
  · rename_i m e'
    obtain ⟨es, hes, hK⟩ := h
    simp only [mapEs] at hes
    split at hes
    · rename_i es0 hk'
      cases hes
      rw [e'] at hx
      generalize hy : ρc x = y at hx
      cases hx with
      | hm _ bl hk'' hf =>
        have hkk : cx.H[m]? = some (.map es) := h2 ▸ hk'
        obtain ⟨b1, b2, ents, b3, b4, b5⟩ := h1.blk m _ hkk
        refine key (some m) es.length _ rfl (fun k hk => by cases hk; exact ⟨_, hkk, rfl⟩) ?_ hK
        simp [execOp, ho, Instr.range, hy, run_underlying hu, run_getObj_map P b3, b4]
    · cases hes
  · rename_i e'
    rw [e'] at hx
    have hy := hx.v_inv
    refine key none 0 none rfl (fun k hk => by cases hk) ?_ h
    simp [execOp, ho, Instr.range, hy, run_underlying hu]
  · exact h.elim
def nextV (H : List Blk) (x : AV) (K : AV → List Blk → Prop) : Prop :=
  match x with
  | .hi k => match H[k]? with
    | some (.it none _ _) => K (.tup [.v (.bool false)]) H
    | some (.it (some m) n seen) => bindO (mapEs H (.hm m)) fun es => andV (es.length = n)
        ((∀ j p, j ∉ seen → es[j]? = some p → K (.tup [.v (.bool true), .v p.1, p.2]) (H.set k (.it (some m) n (seen ++ [j])))) ∧ ((∀ j, j < n → j ∈ seen) → K (.tup [.v (.bool false)]) H))
    | _ => False
  | _ => False
theorem left_spec {es : List (Value × AV)} {ents : List MapEntry} (hl : es.length = ents.length) (hb : ∀ (j : Nat) e, ents[j]? = some e → e.born = j) (seen : List Nat) :
    (∀ e ∈ (leftOf ents.toArray seen.toArray).toList, ∃ j, j ∉ seen ∧ ents[j]? = some e ∧ e.born = j) ∧ ((leftOf ents.toArray seen.toArray).size = 0 → ∀ j, j < ents.length → j ∈ seen) := by
  have hmem : ∀ e, e ∈ (leftOf ents.toArray seen.toArray).toList ↔ e ∈ ents ∧ e.born ∉ seen := by
    intro e
    unfold leftOf
    simp
  constructor
  · intro e he
    obtain ⟨h1, h2⟩ := (hmem e).1 he
    obtain ⟨j, hj⟩ := List.mem_iff_getElem?.1 h1
    have := hb j e hj
    exact ⟨j, this ▸ h2, hj, this⟩
  · intro h0 j hj
    have he : ents[j]? = some ents[j] := List.getElem?_eq_getElem hj
    have hbj := hb j _ he
    have hne : ¬ (ents[j] ∈ (leftOf ents.toArray seen.toArray).toList) := by
      rw [Array.eq_empty_of_size_eq_zero h0]; simp
    rw [hmem] at hne
    rw [hbj] at hne
    by_cases hs : j ∈ seen
    · exact hs
    · exact absurd ⟨List.getElem_mem hj, hs⟩ hne
theorem sound_next {x : Operand} (ho : o.op = .next x false) (h : nextV H (ρ x) K) : OpSem P o ρ H K pan := by
  refine opsem_val fun B w0 cx ρc h1 h2 h3 => ?_
  have hx := h3 x (by simp [Op.operands, ho])
  unfold nextV at h
  split at h
  · rename_i k e'
    rw [e'] at hx
    generalize hy : ρc x = y at hx
    cases hx with
    | hi _ bl hk hf =>
      have hrun : (execOp ρc o).run P cx.w = ((Instr.next (.pointer (some ⟨cx.κ k, 0, none⟩)) false o.type).run P cx.w).andThen fun v w => .ok (.value v) w := by simp [execOp, ho, hy]
      rw [hrun]
      split at h
      · rename_i n seen hkk
        obtain ⟨b1, b2, b3, b4⟩ := h1.blk k _ (h2 ▸ hkk)
        refine ⟨cx, .tup [.v (.bool false)], .tuple #[.bool false], ?_, h1, .refl _, rep_tup ((RepL.nil cx false).cons (.v _)), by rw [h2]; exact h⟩
        simp only [Option.map_none] at b3
        simp [Instr.next, getObj, Sem.run, b3]
      · rename_i m n seen hkk
        obtain ⟨es, hes, hn, hK1, hK2⟩ := h
        obtain ⟨b1, b2, b3, b4⟩ := h1.blk k _ (h2 ▸ hkk)
        simp only [Option.map_some] at b3
        simp only [mapEs] at hes
        split at hes
        · rename_i es0 hk'
          cases hes
          obtain ⟨c1, c2, ents, c3, c4, c5⟩ := h1.blk m _ (h2 ▸ hk')
          have hborn : ∀ (j : Nat) e, ents[j]? = some e → e.born = j := fun j e he => by
            have hj : j < es.length := by rw [c4]; exact (List.getElem?_eq_some_iff.1 he).1
            exact (c5 j _ e (List.getElem?_eq_getElem hj) he).2.2
          have hnl : n = ents.length := by rw [← hn, c4]
          have hold : ∀ e ∈ ents.toArray.toList, e.born < n := fun e he => by
            obtain ⟨j, hj⟩ := List.mem_iff_getElem?.1 (by simpa using he : e ∈ ents)
            rw [hborn j e hj, hnl]; exact (List.getElem?_eq_some_iff.1 hj).1
          obtain ⟨s1, s2⟩ := left_spec c4 hborn seen
          rcases run_next_at (P := P) cx.w o.type (cx.κ k) (cx.κ m) n n seen.toArray ents.toArray ents.length b3 c3 hold (Nat.le_refl _) with ⟨hz, hr⟩ | ⟨e, he, w1, hw1, hr⟩
          · refine ⟨cx, .tup [.v (.bool false)], .tuple #[.bool false], by rw [hr]; rfl, h1, .refl _, rep_tup ((RepL.nil cx false).cons (.v _)), by rw [h2]; exact hK2 fun j hj => s2 hz j (by omega)⟩
          · obtain ⟨j, j1, j2, j3⟩ := s1 e he
            have hjl : j < es.length := by rw [c4]; exact (List.getElem?_eq_some_iff.1 j2).1
            have hej : es[j]? = some es[j] := List.getElem?_eq_getElem hjl
            obtain ⟨d1, d2, _⟩ := c5 j _ e hej j2
            have hkc : cx.H[k]? = some (.it (some m) n seen) := h2 ▸ hkk
            have hmc : cx.H[m]? = some (.map es) := h2 ▸ hk'
            obtain ⟨cx1, hcx1⟩ : ∃ cx1 : Cx, cx1 = { cx with w := w1 } := ⟨_, rfl⟩
            have hb1 : Below cx.w.heap.size cx.w w1 := by rcases hw1 with rfl | rfl; exact Below.refl _ _; exact ⟨rfl, rfl, rfl, Nat.le_refl _, fun _ _ => rfl⟩
            have hR1 : HRel B w0 cx1 := by rw [hcx1]; exact hrel_ext h1 hb1
            have hle1 : Le cx cx1 := by rw [hcx1]; exact le_of_ext hb1.block
            have hk1 : cx1.H[k]? = some (.it (some m) n seen) := by rw [hcx1]; exact hkc
            have hh1 : w1.heap = cx.w.heap := by rcases hw1 with rfl | rfl <;> rfl
            have e1 : cx1.κ = cx.κ := by rw [hcx1]
            have e2 : cx1.w = w1 := by rw [hcx1]
            have e3 : cx1.Φ = cx.Φ := by rw [hcx1]
            have e4 : cx1.H = cx.H := by rw [hcx1]
            have hlt : cx.κ k < w1.heap.size := by rw [hh1]; exact (Array.getElem?_eq_some_iff.1 b3).1
            have hw : ∀ i, i ≠ cx1.κ k → i < cx1.w.heap.size → (ChangeMaps.setBlock w1 (cx.κ k) (.mapIter (some (cx.κ m)) n (seen.toArray.push e.born) ents.length)).heap[i]? = cx1.w.heap[i]? := fun i hi _ => by
              rw [e1] at hi; rw [e2]
              exact Array.getElem?_setIfInBounds_ne (fun h => hi h.symm)
            have hle2 := le_put (cx := cx1) (k := k) (bl := .it (some m) n (seen ++ [j])) (w' := ChangeMaps.setBlock w1 (cx.κ k) (.mapIter (some (cx.κ m)) n (seen.toArray.push e.born) ents.length)) hk1 hw (by rw [e3, e1]; exact b2) (.inl ⟨rfl, rfl⟩)
            refine ⟨cx1.put k (ChangeMaps.setBlock w1 (cx.κ k) (.mapIter (some (cx.κ m)) n (seen.toArray.push e.born) ents.length)) (.it (some m) n (seen ++ [j])), .tup [.v (.bool true), .v es[j].1, es[j].2], .tuple #[.bool true, e.key, e.val], by rw [hr]; rfl, ?_, hle1.trans hle2, ?_, ?_⟩
            · refine hrel_put hR1 hk1 rfl ?_ hw hle2 ⟨by show B ≤ cx1.κ k; rw [e1]; exact b1, by show ¬ cx1.Φ (cx1.κ k); rw [e3, e1]; exact b2, ?_, fun q hq => ?_⟩
              · rw [e2]
                exact ⟨rfl, rfl, rfl, by simp [ChangeMaps.setBlock], fun i hi => Array.getElem?_setIfInBounds_ne (by omega)⟩
              · show (w1.heap.setIfInBounds (cx.κ k) _)[cx1.κ k]? = _
                rw [e1, Array.getElem?_setIfInBounds_self_of_lt hlt, j3]
                have ek : (cx1.put k (ChangeMaps.setBlock w1 (cx.κ k) (.mapIter (some (cx.κ m)) n (seen.toArray.push j) ents.length)) (.it (some m) n (seen ++ [j]))).κ = cx.κ := e1
                simp [hnl, e1, Cx.put]
              · cases hq
                obtain ⟨bl', a', b', _⟩ := hle2.fixed m (.map es) (by rw [e4]; exact hmc) rfl
                exact ⟨bl', a', b'⟩
            · rw [← d1]
              exact rep_tup ((((RepL.nil _ false).cons ((d2.mono hle1).mono hle2)).cons (.v _)).cons (.v _))
            · show K _ (cx1.H.set k _)
              rw [e4, h2]
              exact hK1 j _ j1 hej
        · cases hes
      · exact h.elim
  · exact h.elim
def entryV (H : List Blk) (x : AV) (K : AV → List Blk → Prop) : Prop :=
  match x with
  | .hi k => match H[k]? with
    | some (.it (some m) n seen) => bindO (mapEs H (.hm m)) fun es => andV (es.length = n) (bindO seen.getLast? fun j => bindO es[j]? fun p => K (.tup [.v p.1, p.2]) H)
    | _ => False
  | _ => False
theorem sound_entry {x : Operand} (ho : o.op = .entry x) (h : entryV H (ρ x) K) : OpSem P o ρ H K pan := by
  unfold entryV at h
  split at h
  · rename_i k e'
    split at h
    · rename_i m n seen hkk
      obtain ⟨es, hes, hn, j, hj, p, hp, hK⟩ := h
      refine opsem_same fun cx ρc B w0 h1 h2 h3 => ?_
      have hx := h3 x (by simp [Op.operands, ho])
      rw [e'] at hx
      generalize hy : ρc x = y at hx
      cases hx with
      | hi _ bl hk hf =>
        obtain ⟨b1, b2, b3, b4⟩ := h1.blk k _ (h2 ▸ hkk)
        simp only [Option.map_some] at b3
        simp only [mapEs] at hes
        split at hes
        · rename_i es0 hk'
          cases hes
          obtain ⟨c1, c2, ents, c3, c4, c5⟩ := h1.blk m _ (h2 ▸ hk')
          have hjl : j < ents.length := by rw [← c4]; exact (List.getElem?_eq_some_iff.1 hp).1
          have hej : ents[j]? = some ents[j] := List.getElem?_eq_getElem hjl
          obtain ⟨d1, d2, d3⟩ := c5 j p _ hp hej
          have hborn : ∀ (i : Nat) e, ents[i]? = some e → e.born = i := fun i e he => by
            have hi : i < es.length := by rw [c4]; exact (List.getElem?_eq_some_iff.1 he).1
            exact (c5 i _ e (List.getElem?_eq_getElem hi) he).2.2
          have hnd : (ents.map (·.born)).Nodup := by
            have : ents.map (·.born) = List.range ents.length := by
              apply List.ext_getElem?
              intro i
              rw [List.getElem?_map]
              by_cases hi : i < ents.length
              · rw [List.getElem?_eq_getElem hi, Option.map_some, hborn i _ (List.getElem?_eq_getElem hi), List.getElem?_range hi]
              · rw [List.getElem?_eq_none (by omega), List.getElem?_eq_none (by simp; omega)]; rfl
            rw [this]; exact List.nodup_range
          have hfind : ents.toArray.find? (·.born == j) = some ents[j] := by
            have := find_born ents[j] ents hnd (List.getElem_mem hjl)
            rw [d3] at this
            rw [← Array.find?_toList]; exact this
          have hback : seen.toArray.back? = some j := by simpa using hj
          refine ⟨.tup [.v p.1, p.2], .tuple #[ents[j].key, ents[j].val], ?_, ?_, hK⟩
          · simp only [execOp, ho, hy, Instr.entry, getObj, Sem.run_bind, Sem.run, b3, c3, Result.andThen, hback]
            have hcl : (ents.length != n) = false := by simp; omega
            simp only [hcl, hfind]
            rfl
          · rw [← d1]
            exact rep_tup (((RepL.nil _ false).cons d2).cons (.v _))
        · cases hes
    · exact h.elim
  · exact h.elim
end
end Go.Mu
