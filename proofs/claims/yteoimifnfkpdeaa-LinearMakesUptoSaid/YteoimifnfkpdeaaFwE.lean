/- Operations over abstract values, one by one (2): what each asks for, and that it is enough. -/
import Derived.Test.YteoimifnfkpdeaaFwD
set_option linter.unusedVariables false
set_option linter.unusedSimpArgs false
namespace Go.Mu
open Go.RowKit (Below)

def bindO {α : Type} (o : Option α) (k : α → Prop) : Prop := ∃ a, o = some a ∧ k a
def bindV (a : AV) (k : AV → Prop) : Prop := k a
def andV (c k : Prop) : Prop := c ∧ k

section
variable {P : Program} {o : Oper} {ρ : Operand → AV} {H : List Blk} {K pan : AV → List Blk → Prop}

theorem opsem_val (h : ∀ B w0 cx (ρc : Operand → Value), HRel B w0 cx → cx.H = H → (∀ x ∈ o.op.operands, Rep cx false (ρ x) (ρc x)) →
    ∃ cx' r y, (execOp ρc o).run P cx.w = .ok (.value y) cx'.w ∧ HRel B w0 cx' ∧ Le cx cx' ∧ Rep cx' false r y ∧ K r cx'.H) : OpSem P o ρ H K pan := by
  intro B w0 cx ρc h1 h2 h3
  obtain ⟨cx', r, y, hr, rest⟩ := h B w0 cx ρc h1 h2 h3
  rw [hr]
  exact ⟨cx', r, rfl, rest⟩
theorem opsem_skip (h : ∀ B w0 cx (ρc : Operand → Value), HRel B w0 cx → cx.H = H → (∀ x ∈ o.op.operands, Rep cx false (ρ x) (ρc x)) →
    ∃ cx', (execOp ρc o).run P cx.w = .ok .skip cx'.w ∧ HRel B w0 cx' ∧ Le cx cx' ∧ K (.tup []) cx'.H) : OpSem P o ρ H K pan := by
  intro B w0 cx ρc h1 h2 h3
  obtain ⟨cx', hr, rest⟩ := h B w0 cx ρc h1 h2 h3
  rw [hr]
  exact ⟨cx', rfl, rest⟩
/-- An operation that leaves the world alone. -/
theorem opsem_same (h : ∀ cx (ρc : Operand → Value) B w0, HRel B w0 cx → cx.H = H → (∀ x ∈ o.op.operands, Rep cx false (ρ x) (ρc x)) →
    ∃ r y, (execOp ρc o).run P cx.w = .ok (.value y) cx.w ∧ Rep cx false r y ∧ K r H) : OpSem P o ρ H K pan :=
  opsem_val fun B w0 cx ρc h1 h2 h3 => let ⟨r, y, a, b, c⟩ := h cx ρc B w0 h1 h2 h3; ⟨cx, r, y, a, h1, Le.refl cx, b, h2 ▸ c⟩

theorem sound_move {x : Operand} (ho : o.op = .move x ∨ o.op = .assign x) (h : K (ρ x) H) : OpSem P o ρ H K pan := by
  refine opsem_same fun cx ρc B w0 h1 h2 h3 => ⟨ρ x, ρc x, ?_, h3 x ?_, h⟩
  · rcases ho with ho | ho <;> simp [execOp, ho]
  · rcases ho with ho | ho <;> simp [Op.operands, ho]

theorem sound_pick {c a b : Operand} (ho : o.op = .pick c a b) (h : condV (ρ c) (K (ρ a) H) (K (ρ b) H)) : OpSem P o ρ H K pan := by
  refine opsem_same fun cx ρc B w0 h1 h2 h3 => ?_
  have hc := h3 c (by simp [Op.operands, ho])
  have ha := h3 a (by simp [Op.operands, ho])
  have hb := h3 b (by simp [Op.operands, ho])
  unfold condV at h
  split at h
  · rename_i hv; rw [hv] at hc; have := hc.v_inv
    exact ⟨_, ρc a, by simp [execOp, ho, this, asBool], ha, h⟩
  · rename_i hv; rw [hv] at hc; have := hc.v_inv
    exact ⟨_, ρc b, by simp [execOp, ho, this, asBool], hb, h⟩
  · exact h.elim

theorem sound_alloc {t : TypeId} (ho : o.op = .alloc t) (h : bindO (zeroOf P t) fun z => K (.bp H.length 0) (H ++ [.box t (z.cells.toList.map .v)])) : OpSem P o ρ H K pan := by
  obtain ⟨z, hz, hk⟩ := h
  refine opsem_val fun B w0 cx ρc h1 h2 h3 => ?_
  have hp := push_box h1 t (RepL.of_v cx false z.cells.toList)
  refine ⟨_, .bp cx.H.length 0, .pointer (some ⟨cx.w.heap.size, 0, none⟩), ?_, hp, le_push _ _ _ _, ?_, ?_⟩
  · simp [execOp, ho, Instr.alloc, run_zeroOf hz, newVar, newRow, Cx.push]
  · have : (Cx.push cx (.cells z.cells.toList.toArray t (0, 0)) (.box t (z.cells.toList.map .v)) 0).κ cx.H.length = cx.w.heap.size := updN_same _ _ _
    rw [← this]
    exact .bp _ 0 (.box t (z.cells.toList.map .v)) (by simp [Cx.push]) rfl
  · rw [h2]; exact h2 ▸ hk

theorem sound_box {t : TypeId} {x : Operand} (ho : o.op = .box t x) (h : bindO (avCells (ρ x)) fun cs => K (.bp H.length 0) (H ++ [.box t cs])) : OpSem P o ρ H K pan := by
  obtain ⟨cs, hc, hk⟩ := h
  refine opsem_val fun B w0 cx ρc h1 h2 h3 => ?_
  obtain ⟨vals, hv, hr⟩ := avCells_rep hc (h3 x (by simp [Op.operands, ho]))
  have hp := push_box h1 t hr
  refine ⟨_, .bp cx.H.length 0, .pointer (some ⟨cx.w.heap.size, 0, none⟩), ?_, hp, le_push _ _ _ _, ?_, ?_⟩
  · simp [execOp, ho, Instr.box, newVar, newRow, Cx.push, hv]
  · have : (Cx.push cx (.cells vals.toArray t (0, 0)) (.box t cs) 0).κ cx.H.length = cx.w.heap.size := updN_same _ _ _
    rw [← this]
    exact .bp _ 0 (.box t cs) (by simp [Cx.push]) rfl
  · rw [h2]; exact h2 ▸ hk

theorem sound_load {t : TypeId} {x : Operand} (ho : o.op = .load t x)
    (h : bindO (cellsAt H (ρ x)) fun cs => bindO (szOf P t) fun sz => bindO (aggOf P t) fun b => bindO (aload b sz cs) fun r => K r H) : OpSem P o ρ H K pan := by
  obtain ⟨cs, hc, sz, hz, b, hb, r, hl, hk⟩ := h
  refine opsem_same fun cx ρc B w0 h1 h2 h3 => ?_
  obtain ⟨y, hy, hr⟩ := run_loadAt h1 hz hb (h2 ▸ hc) hl (h3 x (by simp [Op.operands, ho]))
  exact ⟨r, y, by simp [execOp, ho, hy], hr, hk⟩

theorem sound_store {t : TypeId} {a x : Operand} (ho : o.op = .store t a x)
    (h : bindO (avCells (ρ x)) fun xs => andV (szOf P t = some xs.length ∧ xs.all AV.one = true) (bindO (astore H (ρ a) xs) fun H' => K (.tup []) H')) : OpSem P o ρ H K pan := by
  obtain ⟨xs, hx, ⟨hz, hone⟩, H', hs, hk⟩ := h
  refine opsem_skip fun B w0 cx ρc h1 h2 h3 => ?_
  obtain ⟨cx', hr, a1, a2, a3⟩ := run_storeAt h1 hz hx rfl hone (h2 ▸ hs) (h3 a (by simp [Op.operands, ho])) (h3 x (by simp [Op.operands, ho]))
  exact ⟨cx', by simp [execOp, ho, hr], a1, a2, a3 ▸ hk⟩

def padd : AV → Nat → Option AV
  | .bp k off, n => some (.bp k (off + n))
  | .rp k ver i off, n => some (.rp k ver i (off + n))
  | .vp cs, n => some (.vp (cs.drop n))
  | _, _ => none
theorem padd_rep {cx : Cx} {a r : AV} {n : Nat} {y : Value} (hp : padd a n = some r) (h : Rep cx false a y) (hlive : ∀ k ver i off, a = .rp k ver i off → ∃ t sz es, cx.H[k]? = some (.row t sz es) ∧ es.length = ver) :
    ∃ b o, y = .pointer (some ⟨b, o, none⟩) ∧ Rep cx false r (.pointer (some ⟨b, o + n, none⟩)) := by
  cases h with
  | bp k off bl hk hf => simp [padd] at hp; subst hp; exact ⟨_, _, rfl, .bp k (off + n) bl hk hf⟩
  | vp cs b o vals hf hn hc hr =>
    simp [padd] at hp; subst hp
    have hd := (RepL.mk hn hr).drop n
    refine ⟨_, _, rfl, .vp (cs.drop n) b (o + n) (vals.drop n) hf hd.len (fun j x hx => ?_) hd.rep⟩
    rw [List.getElem?_drop] at hx
    rw [Nat.add_assoc]; exact hc _ x hx
  | rp k ver i off y ho bl hk hp' =>
    simp [padd] at hp; subst hp
    obtain ⟨t, sz, es, h1, h2⟩ := hlive k ver i off rfl
    rw [hk] at h1; cases h1
    rcases hp' with hf | ⟨t', sz', es', he, hle, hy⟩
    · simp [Blk.fixed] at hf
    · cases he
      refine ⟨_, _, hy h2, .rp k ver i (off + n) _ rfl _ hk (.inr ⟨t, sz, es, rfl, hle, fun _ => ?_⟩)⟩
      rw [Nat.add_assoc]
  | _ => simp [padd] at hp

theorem sound_fieldAddr {s : TypeId} {x : Operand} {i : Nat} (ho : o.op = .fieldAddr s x i)
    (h : bindO (fldOf P s i) fun fl => bindO (cellsAt H (ρ x)) fun _ => andV (fl.2.1 ≠ 0) (bindO (padd (ρ x) fl.1) fun p => K p H)) : OpSem P o ρ H K pan := by
  obtain ⟨⟨off, sz, b⟩, hf, cs, hcs, hne, p, hp, hk⟩ := h
  refine opsem_same fun cx ρc B w0 h1 h2 h3 => ?_
  have hx := h3 x (by simp [Op.operands, ho])
  have hcs' : cellsAt cx.H (ρ x) = some cs := h2 ▸ hcs
  obtain ⟨b', o', hy, hr⟩ := padd_rep hp hx (fun k ver i off he => by
    rw [he] at hcs'
    simp only [cellsAt] at hcs'
    split at hcs'
    · rename_i t sz es hk
      split at hcs'
      · rename_i hv; exact ⟨t, sz, es, hk, hv⟩
      · cases hcs'
    · cases hcs')
  refine ⟨p, .pointer (some ⟨b', o' + off, none⟩), ?_, hr, hk⟩
  unfold fldOf at hf
  split at hf
  · rename_i fs hu
    split at hf
    · rename_i f hfi
      split at hf
      · rename_i sz' b'' hsz hb
        simp only [Option.some.injEq, Prod.mk.injEq] at hf
        obtain ⟨rfl, rfl, rfl⟩ := hf
        simp [execOp, ho, Instr.fieldAt, run_underlying hu, hfi, hy, Instr.sureAddr, fieldPlace, run_sizeOf hsz, hne, Addr.add_lit]
      · cases hf
    · cases hf
  · cases hf

/-- A part of a built value. -/
def partA (agg : Bool) (sz off : Nat) (cs : List AV) : Option AV := if agg then (if off + sz ≤ cs.length then some (.agg ((cs.drop off).take sz)) else none) else cs[off]?
theorem run_part {P : Program} {w : World} {cx : Cx} {t : TypeId} {sz off : Nat} {agg : Bool} (hz : szOf P t = some sz) (ha : aggOf P t = some agg) {z : Bool} {cs : List AV} {vals : List Value} (hr : RepL cx z cs vals) {r : AV}
    (hp : partA agg sz off cs = some r) : ∃ y, (part t vals.toArray off).run P w = .ok y w ∧ Rep cx z r y := by
  unfold partA at hp
  cases agg with
  | true =>
    simp only [if_true] at hp
    split at hp
    · rename_i hle
      simp at hp; subst hp
      refine ⟨.agg ((vals.drop off).take sz).toArray, ?_, rep_agg ((hr.drop off).take sz)⟩
      simp only [part, Sem.run_bind, run_isAgg ha, Result.andThen_ok, if_true, run_sizeOf hz, Sem.run_pure]
      congr 2
      apply Array.ext'
      simp [List.extract_eq_take_drop]
    · cases hp
  | false =>
    simp at hp
    obtain ⟨y, hy, hry⟩ := hr.get hp
    exact ⟨y, by simp [part, run_isAgg ha, hy], hry⟩

theorem fldOf_spec {s i off sz : Nat} {b : Bool} (h : fldOf P s i = some (off, sz, b)) : ∃ fs f, P.underlying s = some (.struct fs) ∧ fs[i]? = some f ∧ f.offset = off ∧ szOf P f.type = some sz ∧ aggOf P f.type = some b := by
  unfold fldOf at h
  split at h
  · rename_i fs hu
    split at h
    · rename_i f hfi
      split at h
      · rename_i sz' b'' hsz hb
        simp only [Option.some.injEq, Prod.mk.injEq] at h
        obtain ⟨rfl, rfl, rfl⟩ := h
        exact ⟨fs, f, hu, hfi, rfl, hsz, hb⟩
      · cases h
    · cases h
  · cases h

def aggCells : AV → Option (List AV)
  | .agg cs => some cs
  | _ => none

theorem sound_field {s : TypeId} {x : Operand} {i : Nat} (ho : o.op = .field s x i)
    (h : bindO (fldOf P s i) fun fl => bindO (aggCells (ρ x)) fun cs => bindO (partA fl.2.2 fl.2.1 fl.1 cs) fun r => K r H) : OpSem P o ρ H K pan := by
  obtain ⟨⟨off, sz, b⟩, hf, cs, hcs, r, hp, hk⟩ := h
  obtain ⟨fs, f, hu, hfi, rfl, hsz, hb⟩ := fldOf_spec hf
  refine opsem_same fun cx ρc B w0 h1 h2 h3 => ?_
  have hx := h3 x (by simp [Op.operands, ho])
  have he : ρ x = .agg cs := by
    generalize ρ x = a at hcs
    cases a <;> simp [aggCells] at hcs; subst hcs; rfl
  rw [he] at hx
  obtain ⟨vals, hy, hr⟩ := hx.agg_inv
  obtain ⟨y, h1', h2'⟩ := run_part (w := cx.w) hsz hb hr hp
  exact ⟨r, y, by simp [execOp, ho, Instr.field, run_underlying hu, hfi, hy, asAgg, h1'], h2', hk⟩

/-- Into a slice, or an array. -/
def idxV (H : List Blk) (sz : Nat) (x : AV) (i : Int) (k : AV → Prop) : Prop :=
  match x with
  | .vs sz' es => andV (sz' = sz ∧ 0 ≤ i) (bindO es[i.toNat]? fun e => k (.vp e))
  | .hs h off n ver => match H[h]? with | some (.row _ z es) => andV (z = sz ∧ es.length = ver ∧ 0 ≤ i ∧ i < n) (k (.rp h ver (off + i.toNat) 0)) | _ => False
  | _ => False
def intA : AV → Option Int
  | .v (.int _ n) => some n
  | _ => none
theorem intA_spec {a : AV} {n : Int} (h : intA a = some n) : ∃ k, a = .v (.int k n) := by
  cases a <;> simp [intA] at h
  rename_i x
  cases x <;> simp [intA] at h
  subst h; exact ⟨_, rfl⟩

theorem run_indexAt_vs {t e : TypeId} {sz : Nat} (hu : P.underlying t = some (.slice e)) (hz : szOf P e = some sz) (w : World) (b o len cap : Nat) (k : IntKind) (i : Int) (h0 : 0 ≤ i) (h1 : i < len) :
    (Instr.indexAt t (.slice (some ⟨b, o, none⟩) len cap) (.int k i)).run P w = .ok (.pointer (some ⟨b, o + i.toNat * sz, none⟩)) w := by
  simp [Instr.indexAt, asIntOf, run_underlying hu, h0, h1, run_sizeOf hz, Addr.add_lit]

theorem sound_indexAddr {t : TypeId} {x i : Operand} (ho : o.op = .indexAddr t x i)
    (h : bindO (elOf P t) fun e => bindO (szOf P e) fun sz => bindO (intA (ρ i)) fun n => idxV H sz (ρ x) n fun r => K r H) : OpSem P o ρ H K pan := by
  obtain ⟨e, he, sz, hz, n, hn, h⟩ := h
  have hu : P.underlying t = some (.slice e) := by
    unfold elOf at he; split at he
    · rename_i e' hu; cases he; exact hu
    · cases he
  refine opsem_same fun cx ρc B w0 h1 h2 h3 => ?_
  have hx := h3 x (by simp [Op.operands, ho])
  have hi := h3 i (by simp [Op.operands, ho])
  obtain ⟨k, hk⟩ := intA_spec hn
  rw [hk] at hi
  have hi' := hi.v_inv
  unfold idxV at h
  split at h
  · rename_i sz' es hes
    obtain ⟨⟨rfl, h0⟩, el, hel, hK⟩ := h
    rw [hes] at hx
    have hil : n.toNat < es.length := (List.getElem?_eq_some_iff.1 hel).1
    generalize hy : ρc x = y at hx
    cases hx with
    | vs0 => simp at hel
    | vs _ _ b o' cap vals hf hzz hcap hl hnn hone hc hr =>
      refine ⟨.vp el, .pointer (some ⟨b, o' + n.toNat * sz', none⟩), ?_, ?_, hK⟩
      · have := run_indexAt_vs (P := P) hu hz cx.w b o' es.length cap k n h0 (by omega)
        simp [execOp, ho, hy, hi', this]
      · have hell : el.length = sz' := hl el (List.mem_of_getElem? hel)
        have hmul : (n.toNat + 1) * sz' ≤ es.length * sz' := Nat.mul_le_mul_right _ hil
        have hfl := flatten_len es sz' hl
        rw [Nat.succ_mul] at hmul
        refine .vp el b (o' + n.toNat * sz') ((vals.drop (n.toNat * sz')).take sz') hf (by simp; omega) (fun j x hx => ?_) (fun j c x h1' h2' => ?_)
        · rw [List.getElem?_take] at hx
          split at hx
          · rw [List.getElem?_drop] at hx
            rw [Nat.add_assoc]; exact hc _ x hx
          · cases hx
        · rw [List.getElem?_take] at h2'
          split at h2'
          · rw [List.getElem?_drop] at h2'
            exact hr _ c x (flatten_at es sz' _ el hl hel j c h1') h2'
          · cases h2'
  · rename_i h' off n' ver hes
    split at h
    · rename_i t' z es hk'
      obtain ⟨⟨rfl, rfl, h0, hlt⟩, hK⟩ := h
      rw [hes] at hx
      generalize hy : ρc x = y at hx
      cases hx with
      | hs _ _ _ _ _ hone bl hk'' hp =>
        rw [h2, hk'] at hk''; cases hk''
        rcases hp with hf | ⟨t'', sz'', es', heq, hle, hyy⟩
        · simp [Blk.fixed] at hf
        · cases heq
          obtain ⟨hle2, hy2⟩ := hyy rfl
          refine ⟨.rp h' es.length (off + n.toNat) 0, .pointer (some ⟨cx.κ h', off * z + n.toNat * z, none⟩), ?_, ?_, hK⟩
          · have := run_indexAt_vs (P := P) hu hz cx.w (cx.κ h') (off * z) n' (cx.γ h' - off) k n h0 hlt
            rw [hy2] at hy
            simp [execOp, ho, hy, hi', this]
          · refine .rp h' es.length (off + n.toNat) 0 _ rfl _ (by rw [h2]; exact hk') (.inr ⟨t', z, es, rfl, Nat.le_refl _, fun _ => ?_⟩)
            rw [Nat.add_mul]; simp
    · exact h.elim
  · exact h.elim

theorem run_getObj_map (P : Program) {w : World} {k : Nat} {es : Array MapEntry} {c : Nat} (h : w.heap[k]? = some (.map es c)) : (getObj k).run P w = .ok (.map es c) w := by
  simp [getObj, Sem.run, h]
def lkOf (P : Program) (t : TypeId) : Nat := match P.underlying t with | some (.slice _) => 1 | some .string => 2 | some (.map _ _) => 3 | _ => 0
def lenV (H : List Blk) (k : Nat) (x : AV) : Option Int :=
  match k, x with
  | 1, .vs _ es => some es.length
  | 1, .hs h _ n ver => match H[h]? with | some (.row _ _ es) => if es.length = ver then some n else none | _ => none
  | 1, .v (.slice _ n _) => some n
  | 2, .v (.string s) => some s.size
  | 3, .v (.map none) => some 0
  | 3, .hm h => match H[h]? with | some (.map es) => some es.length | _ => none
  | _, _ => none

theorem sound_len {x : Operand} {t : TypeId} (ho : o.op = .call { callee := .builtin .len, args := #[x], argTypes := #[t] })
    (h : bindO (lenV H (lkOf P t) (ρ x)) fun n => K (.v (.int .i64 n)) H) : OpSem P o ρ H K pan := by
  obtain ⟨n, hn, hK⟩ := h
  refine opsem_same fun cx ρc B w0 h1 h2 h3 => ?_
  have hx := h3 x (by simp [Op.operands, Call.operands, ho])
  refine ⟨.v (.int .i64 n), .int .i64 n, ?_, .v _, hK⟩
  generalize hy : ρc x = y at hx
  have ex : (execOp ρc o).run P cx.w = ((Builtin.len_ #[t] o.type #[y]).run P cx.w).andThen fun v w => .ok (.value v) w := by
    simp [execOp, ho, resolve, invoke, builtin, hy]
  rw [ex]
  generalize ρ x = ax at hn hx
  generalize hl : lkOf P t = lk at hn
  unfold lkOf at hl
  have hd : ∀ d, P.underlying t = some d → (lk = 1 → ∃ e, d = .slice e) ∧ (lk = 2 → d = .string) ∧ (lk = 3 → ∃ a b, d = .map a b) := by
    intro d hd; rw [hd] at hl
    cases d <;> simp at hl <;> subst hl <;> simp
  have hsome : lk ≠ 0 → ∃ d, P.underlying t = some d := by
    intro h0
    cases hu : P.underlying t with
    | none => rw [hu] at hl; simp at hl; omega
    | some d => exact ⟨d, rfl⟩
  unfold lenV at hn
  split at hn
  all_goals (first | (exfalso; simp at hn; done) | skip)
  all_goals (obtain ⟨d, hdd⟩ := hsome (by decide); have hd' := hd d hdd)
  · obtain ⟨e, rfl⟩ := hd'.1 rfl
    simp at hn; subst hn
    cases hx with
    | vs0 sz a cap => simp [Builtin.len_, run_underlying hdd, goInt]
    | vs sz es b o cap vals hf hz hcap hl hnn hone hc hr => simp [Builtin.len_, run_underlying hdd, goInt]
  · obtain ⟨e, rfl⟩ := hd'.1 rfl
    split at hn
    · rename_i t' z es hk'
      split at hn
      · rename_i hv
        simp at hn; subst hn
        cases hx with
        | hs _ _ _ _ _ ho' bl hk hp =>
          rw [h2, hk'] at hk; cases hk
          rcases hp with hf | ⟨t'', sz'', es', heq, hle, hyy⟩
          · simp [Blk.fixed] at hf
          · cases heq
            obtain ⟨_, hy2⟩ := hyy hv
            subst hy2
            simp [Builtin.len_, run_underlying hdd, goInt]
      · cases hn
    · cases hn
  · obtain ⟨e, rfl⟩ := hd'.1 rfl
    simp at hn; subst hn
    cases hx; simp [Builtin.len_, run_underlying hdd, goInt]
  · obtain rfl := hd'.2.1 rfl
    simp at hn; subst hn
    cases hx; simp [Builtin.len_, run_underlying hdd, goInt]
  · obtain ⟨a, b, rfl⟩ := hd'.2.2 rfl
    simp at hn; subst hn
    cases hx; simp [Builtin.len_, run_underlying hdd, goInt]
  · obtain ⟨a, b, rfl⟩ := hd'.2.2 rfl
    split at hn
    · rename_i es hk'
      simp at hn; subst hn
      cases hx with
      | hm _ bl hk hf =>
        obtain ⟨_, _, ents, clock, hh, hl, _⟩ := h1.blk _ _ (h2 ▸ hk')
        have hg := run_getObj_map P hh
        simp [Builtin.len_, run_underlying hdd, goInt, hg, hl]
    · cases hn
end
end Go.Mu
