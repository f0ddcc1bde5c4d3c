/- What a run of a function's code asks for, by its text: the conditions, and that they are enough. -/
import Derived.Test.YteoimifnfkpdeaaFwM
set_option linter.unusedVariables false
set_option linter.unusedSimpArgs false
namespace Go.Mu
open Go.RowKit (Below)

/-! ### One operation -/
def isNonIface (P : Program) (t : TypeId) : Bool := match P.underlying t with | some (.interface _) => false | some _ => true | none => false
def tupGet (x : AV) (i : Nat) : Option AV := match x with | .tup xs => xs[i]? | _ => none
def panV (x : AV) (k : Prop) : Prop := match x with | .ifc _ _ => k | _ => False
def mapUpd (H : List Blk) (m : AV) (k : Option Value) (x : AV) (d : TypeDesc) (K : List Blk → Prop) : Prop :=
  match m with
  | .hm h => bindO (mapEs H (.hm h)) fun es => bindO k fun k => bindO (mset d k x es) fun es' => K (H.set h (.map es'))
  | _ => False
def appFz (s x : AV) (sl : TypeId × Nat × List Value × Nat) (K : AV → Prop) : Prop :=
  match s, x with
  | .v (.slice none 0 0), .vs sz ys => andV (sz = sl.2.1) (andV (ys.length * sl.2.2.2 ≤ 140737488355328 ∧ ys.length ≤ 9223372036854775807) (K (.vs sz ys)))
  | _, _ => False

def callB (P : Program) (hn : Nat → Bool) (H : List Blk) (ρ : Operand → AV) (dst : Option Tmp) (b : Builtin) (args : List Operand) (ts : List TypeId) (K : AV → List Blk → Prop) : Prop :=
  match b, args, ts with
  | .len, [x], [t] => bindO (lenV H (lkOf P t) (ρ x)) fun n => K (.v (.int .i64 n)) H
  | .append, [s, x], [t, t'] => andV (t = t') (bindO (slbOf P t) fun sl =>
      if hn (dst.getD 0) then andV (sl.2.2.1.all Value.oneCell' = true) (bindO (srcEs H sl.2.1 (ρ x)) fun ys => appendV H sl (ρ s) ys K)
      else appFz (ρ s) (ρ x) sl fun r => K r H)
  | _, _, _ => False
/-- A call that changes nothing and has one answer. -/
def callDV (P : Program) (H : List Blk) (fv : AV) (args : List AV) (K : AV → List Blk → Prop) : Prop :=
  match fv with
  | .fn (.func g) first cap => andV (okFn P g = true) (∃ r, ACalls P g (first ++ args ++ cap) H (fun e H' => e = .ret r ∧ H' = H) ∧ K r H)
  | _ => False
def callTV (P : Program) (hn : Nat → Bool) (dr : Bool) (H : List Blk) (dst : Option Tmp) (fv : AV) (args : List AV) (K pan : AV → List Blk → Prop) : Prop :=
  if (dr && !hn (dst.getD 0)) = true then callDV P H fv args K else callV P H fv args K pan
def callC (P : Program) (hn : Nat → Bool) (dr : Bool) (H : List Blk) (ρ : Operand → AV) (dst : Option Tmp) (c : Call) (K pan : AV → List Blk → Prop) : Prop :=
  match c.callee with
  | .value fo => callTV P hn dr H dst (ρ fo) (c.args.toList.map ρ) K pan
  | .builtin b => callB P hn H ρ dst b c.args.toList c.argTypes.toList K
  | _ => False

/-- May this be the nil slice? -/
def nilSlC (y : Operand) : Bool := match y with | .tmp _ => false | .const (.slice none 0 0) => true | _ => false
/-- 'hn d': the new memory that is told in slot d stays the call's own (else it is never written again). -/
def vcOp (P : Program) (hn : Nat → Bool) (dr : Bool) (H : List Blk) (ρ : Operand → AV) (dst : Option Tmp) (op : Op) (K pan : AV → List Blk → Prop) : Prop :=
  match op with
  | .move x | .assign x => bindV (ρ x) fun a => K a H
  | .pick c a b => condV (ρ c) (bindV (ρ a) fun a => K a H) (bindV (ρ b) fun a => K a H)
  | .alloc t => bindO (zeroOf P t) fun z => K (.bp H.length 0) (H ++ [.box t (z.cells.toList.map .v)])
  | .box t x => bindO (avCells (ρ x)) fun cs => K (.bp H.length 0) (H ++ [.box t cs])
  | .load t x => bindO (cellsAt H (ρ x)) fun cs => bindO (szOf P t) fun sz => bindO (aggOf P t) fun b => bindO (aload b sz cs) fun r => K r H
  | .store t a x => bindO (avCells (ρ x)) fun xs => andV (szOf P t = some xs.length ∧ xs.all AV.one = true) (bindO (astore H (ρ a) xs) fun H' => K (.tup []) H')
  | .fieldAddr s x i => bindO (fldOf P s i) fun fl => bindO (cellsAt H (ρ x)) fun _ => andV (fl.2.1 ≠ 0) (bindO (padd (ρ x) fl.1) fun p => K p H)
  | .field s x i => bindO (fldOf P s i) fun fl => bindO (aggCells (ρ x)) fun cs => bindO (partA fl.2.2 fl.2.1 fl.1 cs) fun r => K r H
  | .indexAddr t x i => match arOf P t with
    | some ar => bindO (szOf P ar.2) fun sz => bindO (intA (ρ i)) fun n => idxA ar.1 sz (ρ x) n fun r => K r H
    | none => bindO (elOf P t) fun e => bindO (szOf P e) fun sz => bindO (intA (ρ i)) fun n => idxV H sz (ρ x) n fun r => K r H
  | .index t x i => match arOf P t with
    | some ar => bindO (szOf P ar.2) fun sz => bindO (aggOf P ar.2) fun agg => bindO (intA (ρ i)) fun n => bindO (idxVal (ρ x) agg ar.1 sz n) fun r => K r H
    | none => andV (lkOf P t = 2) (bindO (strA (ρ x)) fun s => bindO (intA (ρ i)) fun n => andV (0 ≤ n) (bindO (s.data.toList[n.toNat]?) fun b => K (.v (.int .u8 b.toNat)) H))
  | .slice t x lo hi none => bindO (elOf P t) fun e => bindO (szOf P e) fun sz => bindO (optI (lo.map ρ)) fun l => bindO (optI (hi.map ρ)) fun hh => sliceV H sz (ρ x) l hh fun r => K r H
  | .makeSlice t ln cp => bindO (slbOf P t) fun sl => bindO (intA (ρ ln)) fun n => bindO (intA (ρ cp)) fun c => andV (0 ≤ n ∧ n ≤ c ∧ (sl.2.2.2 : Int) * c ≤ 281474976710656 ∧ c ≤ 9223372036854775807 ∧ sl.2.2.1.all Value.oneCell' = true)
      (K (.hs H.length 0 n.toNat n.toNat) (H ++ [.row sl.1 sl.2.1 (List.replicate n.toNat (sl.2.2.1.map .v))]))
  | .binOp op t x y _ => if isNum (ρ x) then bindO (binA2 op (ρ x) (ρ y)) fun r => K r H else if (nilSlC y && isNilSl (ρ y)) = true then andV (eqOp op = true ∧ (elOf P t).isSome = true) (slNil (ρ x) fun b => K (.v (.bool (eqVal op b))) H) else andV (nnB (ρ x) (ρ y) (constB x || constB y) = true) (bindO (binE P op t (ρ x) (ρ y)) fun r => K r H)
  | .unOp op _ x => bindO (unA op (ρ x)) fun r => K r H
  | .convert s t x => andV (undB P s = true) (bindO (kOf P t) fun k => bindO (intA (ρ x)) fun n => K (.v (.int k (k.wrap n))) H)
  | .nilCheck x => bindO (cellsAt H (ρ x)) fun _ => K (ρ x) H
  | .extract x i => bindO (tupGet (ρ x) i) fun r => K r H
  | .makeInterface t x => andV (isNonIface P t = true) (K (.ifc t (ρ x)) H)
  | .build t parts => bindO (bldOf P t) fun zp => bindO (afill (fun i => zp.2[i]?) (zp.1.map .v) (parts.toList.map fun x => (x.1, ρ x.2))) fun cs => K (.agg cs) H
  | .buildSlice t len parts => bindO (slbOf P t) fun sl => andV (len * sl.2.1 ≤ 2 ^ 24) (bindO (afillS sl.2.1 (List.replicate len (sl.2.2.1.map .v)) (parts.toList.map fun x => (x.1, ρ x.2))) fun es =>
      if hn (dst.getD 0) then andV (es.flatten.all AV.one = true) (K (.hs H.length 0 len len) (H ++ [.row sl.1 sl.2.1 es]))
      else andV (es.flatten.all AV.frzB = true ∧ es.flatten.all AV.one = true) (K (.vs sl.2.1 es) H))
  | .makeFunc fn first cap => K (.fn fn (first.toList.map ρ) (cap.toList.map ρ)) H
  | .panic x => panV (ρ x) (pan (ρ x) H)
  | .typeAssert x _ t ok => andV (isNonIface P t = true) (bindO (zeroOf P t) fun z => bindO (assertV (ρ x) t z ok) fun r => K r H)
  | .makeMap _ none => K (.hm H.length) (H ++ [.map []])
  | .lookup t x i ok => bindO (mapOf P t) fun m => bindO (mapEs H (ρ x)) fun es => bindO (keyA (ρ i)) fun k => bindO (mfind m.1 k es) fun r =>
      K (if ok then .tup [r.getD (assertV.avZ m.2), .v (.bool r.isSome)] else r.getD (assertV.avZ m.2)) H
  | .mapUpdate t m i x | .insert t m i x => bindO (mapOf P t) fun mm => mapUpd H (ρ m) (keyA (ρ i)) (ρ x) mm.1 fun H' => K (.tup []) H'
  | .call c => callC P hn dr H ρ dst c K pan
  | _ => False

theorem callDV_callV {P : Program} {H : List Blk} {fv : AV} {args : List AV} {K pan : AV → List Blk → Prop} (h : callDV P H fv args K) : callV P H fv args K pan := by
  unfold callDV at h
  unfold callV
  split at h
  · obtain ⟨h1, r, h2, h3⟩ := h
    exact ⟨h1, h2.mono fun e H' he => by obtain ⟨rfl, rfl⟩ := he; exact h3⟩
  · exact h.elim
theorem vcOp_sound {P : Program} {hn : Nat → Bool} {dr : Bool} {H : List Blk} {ρ : Operand → AV} {o : Oper} {K pan : AV → List Blk → Prop} (h : vcOp P hn dr H ρ o.dst o.op K pan) : OpSem P o ρ H K pan := by
  unfold vcOp at h
  split at h <;> rename_i ho
  · exact sound_move (.inl ho) h
  · exact sound_move (.inr ho) h
  · exact sound_pick ho h
  · exact sound_alloc ho h
  · exact sound_box ho h
  · exact sound_load ho h
  · exact sound_store ho h
  · exact sound_fieldAddr ho h
  · exact sound_field ho h
  · split at h
    · rename_i ar ha; exact sound_indexAddrA ho ⟨ar, ha, h⟩
    · exact sound_indexAddr ho h
  · split at h
    · rename_i ar ha; exact sound_indexArr ho ⟨ar, ha, h⟩
    · exact sound_indexStr ho h
  · exact sound_slice ho h
  · exact sound_makeSlice ho h
  · split at h
    · exact sound_bin ho h
    · split at h
      · rename_i hsl; simp only [Bool.and_eq_true] at hsl; exact sound_sliceNil ho hsl.2 h
      · rename_i hnum _
        exact sound_binE ho ⟨⟨by simpa using hnum, h.1⟩, h.2⟩
  · exact sound_un ho h
  · exact sound_convI ho h
  · exact sound_nilCheck ho h
  · exact sound_extract ho h
  · exact sound_makeInterface ho h
  · exact sound_build ho h
  · obtain ⟨sl, hs, hl, es, he, h⟩ := h
    split at h
    · exact sound_buildSlice_own ho ⟨sl, hs, hl, es, he, h⟩
    · exact sound_buildSlice_fz ho ⟨sl, hs, hl, es, he, h⟩
  · exact sound_makeFunc ho h
  · exact sound_panic ho h
  · exact sound_typeAssert ho h
  · exact sound_makeMap ho h
  · exact sound_lookup ho h
  · obtain ⟨mm, hm, h⟩ := h
    unfold mapUpd at h
    exact sound_mapUpdate (.inl ho) ⟨mm, hm, h⟩
  · obtain ⟨mm, hm, h⟩ := h
    unfold mapUpd at h
    exact sound_mapUpdate (.inr ho) ⟨mm, hm, h⟩
  · rename_i c
    unfold callC at h
    split at h <;> rename_i hc
    · unfold callTV at h
      split at h
      · exact sound_call ho hc (callDV_callV h)
      · exact sound_call ho hc h
    · obtain ⟨callee, args, ts⟩ := c
      simp only at hc h
      subst hc
      unfold callB at h
      split at h <;> rename_i ha ht
      · have e1 : args = #[_] := Array.toList_inj.1 (by rw [ha])
        have e2 : ts = #[_] := Array.toList_inj.1 (by rw [ht])
        subst e1; subst e2
        exact sound_len ho h
      · have e1 : args = #[_, _] := Array.toList_inj.1 (by rw [ha])
        have e2 : ts = #[_, _] := Array.toList_inj.1 (by rw [ht])
        subst e1; subst e2
        obtain ⟨htt, sl, hs, h⟩ := h
        subst htt
        split at h
        · exact sound_append ho ⟨sl, hs, h⟩
        · exact sound_append_fz ho ⟨sl, hs, h⟩
      · exact h.elim
    · exact h.elim
  · exact h.elim

/-- Does an operation leave all memory of the call's own as it is? -/
def pureOp (hn : Nat → Bool) (o : Oper) : Bool :=
  match o.op with
  | .binOp _ _ _ y _ => !nilSlC y
  | .move _ | .assign _ | .pick .. | .load .. | .fieldAddr .. | .field .. | .indexAddr .. | .index .. | .slice _ _ _ _ none | .unOp .. | .convert .. | .nilCheck _ | .extract .. | .makeInterface .. | .build .. | .makeFunc .. | .typeAssert .. | .lookup .. => true
  | .buildSlice .. => !hn (o.dst.getD 0)
  | .call c => match c.callee with
    | .value _ => !hn (o.dst.getD 0)
    | .builtin .len => true
    | .builtin .append => !hn (o.dst.getD 0)
    | _ => false
  | _ => false

theorem bindO_det {α : Type} {o : Option α} {k : α → Prop} {C : Prop} {k' : AV → α → Prop} (h : bindO o k) (hk : ∀ a, o = some a → k a → ∃ r, k' r a ∧ C) : ∃ r, bindO o (k' r) ∧ C := by
  obtain ⟨a, ha, h⟩ := h
  obtain ⟨r, h1, h2⟩ := hk a ha h
  exact ⟨r, ⟨a, ha, h1⟩, h2⟩

/-- One answer. -/
def Det (H : List Blk) (W : (AV → List Blk → Prop) → (AV → List Blk → Prop) → Prop) : Prop := ∀ K pan, W K pan → ∃ r, W (fun r' H' => r' = r ∧ H' = H) (fun _ _ => False) ∧ K r H

theorem det_bindO {H : List Blk} {α : Type} {o : Option α} {W : α → (AV → List Blk → Prop) → (AV → List Blk → Prop) → Prop} (h : ∀ a, Det H (W a)) : Det H fun K pan => bindO o fun a => W a K pan := by
  intro K pan hw
  obtain ⟨a, ha, hw⟩ := hw
  obtain ⟨r, h1, h2⟩ := h a K pan hw
  exact ⟨r, ⟨a, ha, h1⟩, h2⟩
theorem det_andV {H : List Blk} {p : Prop} {W : (AV → List Blk → Prop) → (AV → List Blk → Prop) → Prop} (h : Det H W) : Det H fun K pan => andV p (W K pan) := by
  intro K pan hw
  obtain ⟨r, h1, h2⟩ := h K pan hw.2
  exact ⟨r, ⟨hw.1, h1⟩, h2⟩
theorem det_K {H : List Blk} (r : AV) : Det H fun K pan => K r H := fun K pan h => ⟨r, ⟨rfl, rfl⟩, h⟩
theorem det_False {H : List Blk} : Det H fun K pan => False := fun K pan h => h.elim
theorem det_ite {H : List Blk} {p : Prop} [Decidable p] {W W' : (AV → List Blk → Prop) → (AV → List Blk → Prop) → Prop} (h : p → Det H W) (h' : ¬p → Det H W') : Det H fun K pan => if p then W K pan else W' K pan := by
  intro K pan hw
  by_cases hp : p
  · simp only [if_pos hp] at hw ⊢; exact h hp K pan hw
  · simp only [if_neg hp] at hw ⊢; exact h' hp K pan hw

theorem vcOp_det {P : Program} {hn : Nat → Bool} {H : List Blk} {ρ : Operand → AV} {o : Oper} {K pan : AV → List Blk → Prop} (hp : pureOp hn o = true) (h : vcOp P hn true H ρ o.dst o.op K pan) :
    ∃ r, DetSem P o ρ H r ∧ K r H := by
  suffices hd : Det H (vcOp P hn true H ρ o.dst o.op) by
    obtain ⟨r, h1, h2⟩ := hd K pan h
    exact ⟨r, vcOp_sound h1, h2⟩
  obtain ⟨dst, op, ty, pos, aft, g⟩ := o
  unfold pureOp at hp
  simp only at hp ⊢
  split at hp
  case h_1 op t x y _ =>
    have hp' : nilSlC y = false := by simpa using hp
    exact det_ite (fun _ => det_bindO fun _ => det_K _) (fun _ => det_ite (fun h => absurd h (by simp [hp'])) (fun _ => det_andV (det_bindO fun _ => det_K _)))
  case h_2 => exact det_K _
  case h_3 => exact det_K _
  case h_4 c a b =>
    intro K pan h
    have h' : condV (ρ c) (K (ρ a) H) (K (ρ b) H) := h
    unfold condV at h'
    split at h'
    · rename_i e
      refine ⟨_, ?_, h'⟩
      show condV (ρ c) _ _
      rw [e]; exact ⟨rfl, rfl⟩
    · rename_i e
      refine ⟨_, ?_, h'⟩
      show condV (ρ c) _ _
      rw [e]; exact ⟨rfl, rfl⟩
    · exact h'.elim
  case h_5 => exact det_bindO fun _ => det_bindO fun _ => det_bindO fun _ => det_bindO fun _ => det_K _
  case h_6 => exact det_bindO fun _ => det_bindO fun _ => det_andV (det_bindO fun _ => det_K _)
  case h_7 => exact det_bindO fun _ => det_bindO fun _ => det_bindO fun _ => det_K _
  case h_8 t x i =>
    intro K pan h
    have dA : ∀ ar : Nat × TypeId, Det H fun K pan => bindO (szOf P ar.2) fun sz => bindO (intA (ρ i)) fun n => idxA ar.1 sz (ρ x) n fun r => K r H := fun ar => by
      refine det_bindO fun sz => det_bindO fun n => ?_
      intro K pan h
      unfold idxA at h
      split at h <;> rename_i e
      · exact ⟨_, (by rw [e]; exact ⟨h.1, rfl, rfl⟩), h.2⟩
      · exact ⟨_, (by rw [e]; exact ⟨h.1, rfl, rfl⟩), h.2⟩
      · exact h.elim
    have dS : Det H fun K pan => bindO (elOf P t) fun e => bindO (szOf P e) fun sz => bindO (intA (ρ i)) fun n => idxV H sz (ρ x) n fun r => K r H := by
      refine det_bindO fun e => det_bindO fun sz => det_bindO fun n => ?_
      intro K pan h
      unfold idxV at h
      split at h <;> rename_i e
      · obtain ⟨r, h1, h2⟩ := (det_andV (det_bindO fun _ => det_K _)) K pan h
        exact ⟨r, (by rw [e]; exact h1), h2⟩
      · split at h <;> rename_i e2
        · exact ⟨_, (by rw [e]; unfold idxV; simp only [e2]; exact ⟨h.1, by simp⟩), h.2⟩
        · exact h.elim
      · exact h.elim
    cases ha : arOf P t with
    | some ar =>
      obtain ⟨r, h1, h2⟩ := dA ar K pan (by simpa only [vcOp, ha] using h)
      exact ⟨r, by simpa only [vcOp, ha] using h1, h2⟩
    | none =>
      obtain ⟨r, h1, h2⟩ := dS K pan (by simpa only [vcOp, ha] using h)
      exact ⟨r, by simpa only [vcOp, ha] using h1, h2⟩
  case h_9 t x i =>
    intro K pan h
    have dA : ∀ ar : Nat × TypeId, Det H fun K pan => bindO (szOf P ar.2) fun sz => bindO (aggOf P ar.2) fun agg => bindO (intA (ρ i)) fun n => bindO (idxVal (ρ x) agg ar.1 sz n) fun r => K r H := fun ar => det_bindO fun _ => det_bindO fun _ => det_bindO fun _ => det_bindO fun _ => det_K _
    have dS : Det H fun K pan => andV (lkOf P t = 2) (bindO (strA (ρ x)) fun s => bindO (intA (ρ i)) fun n => andV (0 ≤ n) (bindO (s.data.toList[n.toNat]?) fun b => K (.v (.int .u8 b.toNat)) H)) := det_andV (det_bindO fun _ => det_bindO fun _ => det_andV (det_bindO fun _ => det_K _))
    cases ha : arOf P t with
    | some ar =>
      obtain ⟨r, h1, h2⟩ := dA ar K pan (by simpa only [vcOp, ha] using h)
      exact ⟨r, by simpa only [vcOp, ha] using h1, h2⟩
    | none =>
      obtain ⟨r, h1, h2⟩ := dS K pan (by simpa only [vcOp, ha] using h)
      exact ⟨r, by simpa only [vcOp, ha] using h1, h2⟩
  case h_10 t x lo hi =>
    refine det_bindO fun e => det_bindO fun sz => det_bindO fun l => det_bindO fun hh => ?_
    intro K pan h
    unfold sliceV at h
    split at h <;> rename_i e1
    · exact ⟨_, (by rw [e1]; exact ⟨h.1, rfl, rfl⟩), h.2⟩
    · split at h <;> rename_i e2
      · exact ⟨_, (by rw [e1]; unfold sliceV; simp only [e2]; exact ⟨h.1, by simp⟩), h.2⟩
      · exact h.elim
    · exact ⟨_, (by rw [e1]; exact ⟨h.1, rfl, rfl⟩), h.2⟩
    · exact h.elim
  case h_11 => exact det_bindO fun _ => det_K _
  case h_12 => exact det_andV (det_bindO fun _ => det_bindO fun _ => det_K _)
  case h_13 => exact det_bindO fun _ => det_K _
  case h_14 => exact det_bindO fun _ => det_K _
  case h_15 => exact det_andV (det_K _)
  case h_16 => exact det_bindO fun _ => det_bindO fun _ => det_K _
  case h_17 => exact det_K _
  case h_18 => exact det_andV (det_bindO fun _ => det_bindO fun _ => det_K _)
  case h_19 => exact det_bindO fun _ => det_bindO fun _ => det_bindO fun _ => det_bindO fun _ => det_K _
  case h_20 =>
    refine det_bindO fun sl => det_andV (det_bindO fun es => ?_)
    simp only [Bool.not_eq_true'] at hp
    simp only [hp, Bool.false_eq_true, if_false]
    exact det_andV (det_K _)
  case h_21 c =>
    obtain ⟨callee, args, ts⟩ := c
    simp only at hp
    split at hp
    · intro K pan h
      simp only [vcOp, callC, callTV, hp, Bool.and_self, if_true] at h ⊢
      unfold callDV at h ⊢
      split at h
      · obtain ⟨h1, r, h2, h3⟩ := h
        exact ⟨r, ⟨h1, r, h2, rfl, rfl⟩, h3⟩
      · exact h.elim
    · intro K pan h
      simp only [vcOp, callC] at h ⊢
      unfold callB at h ⊢
      split at h
      · exact (det_bindO fun _ => det_K _) K pan h
      · rename_i hb _ _; cases hb
      · exact h.elim
    · intro K pan h
      simp only [vcOp, callC] at h ⊢
      unfold callB at h ⊢
      simp only [Bool.not_eq_true'] at hp
      split at h
      · rename_i hb _ _; cases hb
      · simp only [hp, Bool.false_eq_true, if_false] at h ⊢
        rename_i s x t t' _ _ _
        have hd : Det H fun K pan => bindO (slbOf P t) fun sl => appFz (ρ s) (ρ x) sl fun r => K r H := by
          refine det_bindO fun sl => ?_
          intro K pan h
          unfold appFz at h
          split at h
          · rename_i e1 e2; exact ⟨_, (by rw [e1, e2]; exact ⟨h.1, h.2.1, rfl, rfl⟩), h.2.2⟩
          · exact h.elim
        obtain ⟨r, h1, h2⟩ := hd K pan h.2
        exact ⟨r, ⟨h.1, by simpa using h1⟩, h2⟩
      · exact h.elim
    · cases hp
  case h_22 => cases hp

/-- Does an operation look at no memory? -/
def hfreeOp (o : Oper) : Bool :=
  match o.op with
  | .binOp _ _ _ y _ => !nilSlC y
  | .move _ | .assign _ | .pick .. | .field .. | .unOp .. | .convert .. | .extract .. | .makeInterface .. | .build .. | .makeFunc .. | .typeAssert .. => true
  | _ => false
def HDet (W : List Blk → (AV → List Blk → Prop) → (AV → List Blk → Prop) → Prop) : Prop := ∀ H K pan, W H K pan → ∃ r, (∀ H1, W H1 (fun r' H' => r' = r ∧ H' = H1) (fun _ _ => False)) ∧ K r H
theorem hdet_bindO {α : Type} {o : Option α} {W : α → List Blk → (AV → List Blk → Prop) → (AV → List Blk → Prop) → Prop} (h : ∀ a, HDet (W a)) : HDet fun H K pan => bindO o fun a => W a H K pan := by
  intro H K pan hw
  obtain ⟨a, ha, hw⟩ := hw
  obtain ⟨r, h1, h2⟩ := h a H K pan hw
  exact ⟨r, fun H1 => ⟨a, ha, h1 H1⟩, h2⟩
theorem hdet_andV {p : Prop} {W : List Blk → (AV → List Blk → Prop) → (AV → List Blk → Prop) → Prop} (h : HDet W) : HDet fun H K pan => andV p (W H K pan) := by
  intro H K pan hw
  obtain ⟨r, h1, h2⟩ := h H K pan hw.2
  exact ⟨r, fun H1 => ⟨hw.1, h1 H1⟩, h2⟩
theorem hdet_K (r : AV) : HDet fun H K pan => K r H := fun H K pan h => ⟨r, fun _ => ⟨rfl, rfl⟩, h⟩
theorem hdet_ite {p : Prop} [Decidable p] {W W' : List Blk → (AV → List Blk → Prop) → (AV → List Blk → Prop) → Prop} (h : p → HDet W) (h' : ¬p → HDet W') : HDet fun H K pan => if p then W H K pan else W' H K pan := by
  intro H K pan hw
  by_cases hp : p
  · simp only [if_pos hp] at hw ⊢; exact h hp H K pan hw
  · simp only [if_neg hp] at hw ⊢; exact h' hp H K pan hw
theorem vcOp_hfree {P : Program} {hn : Nat → Bool} {H : List Blk} {ρ : Operand → AV} {o : Oper} {K pan : AV → List Blk → Prop} (hp : hfreeOp o = true) (h : vcOp P hn true H ρ o.dst o.op K pan) :
    ∃ r, (∀ H', DetSem P o ρ H' r) ∧ K r H := by
  suffices hd : HDet (fun H => vcOp P hn true H ρ o.dst o.op) by
    obtain ⟨r, h1, h2⟩ := hd H K pan h
    exact ⟨r, fun H' => vcOp_sound (h1 H'), h2⟩
  obtain ⟨dst, op, ty, pos, aft, g⟩ := o
  unfold hfreeOp at hp
  simp only at hp ⊢
  split at hp
  case h_1 op t x y _ =>
    have hp' : nilSlC y = false := by simpa using hp
    exact hdet_ite (fun _ => hdet_bindO fun _ => hdet_K _) (fun _ => hdet_ite (fun h => absurd h (by simp [hp'])) (fun _ => hdet_andV (hdet_bindO fun _ => hdet_K _)))
  case h_2 => exact hdet_K _
  case h_3 => exact hdet_K _
  case h_4 c a b =>
    intro H K pan h
    have h' : condV (ρ c) (K (ρ a) H) (K (ρ b) H) := h
    unfold condV at h'
    split at h'
    · rename_i e
      refine ⟨_, fun H1 => ?_, h'⟩
      show condV (ρ c) _ _
      rw [e]; exact ⟨rfl, rfl⟩
    · rename_i e
      refine ⟨_, fun H1 => ?_, h'⟩
      show condV (ρ c) _ _
      rw [e]; exact ⟨rfl, rfl⟩
    · exact h'.elim
  case h_5 => exact hdet_bindO fun _ => hdet_bindO fun _ => hdet_bindO fun _ => hdet_K _
  case h_6 => exact hdet_bindO fun _ => hdet_K _
  case h_7 => exact hdet_andV (hdet_bindO fun _ => hdet_bindO fun _ => hdet_K _)
  case h_8 => exact hdet_bindO fun _ => hdet_K _
  case h_9 => exact hdet_andV (hdet_K _)
  case h_10 => exact hdet_bindO fun _ => hdet_bindO fun _ => hdet_K _
  case h_11 => exact hdet_K _
  case h_12 => exact hdet_andV (hdet_bindO fun _ => hdet_bindO fun _ => hdet_K _)
  case h_13 => cases hp

/-! ### A list of operations -/
def deferV (P : Program) (fv : AV) (args : List AV) (k : ADef → Prop) : Prop :=
  match fv with
  | .fn (.func g) first cap => k ⟨g, first ++ args ++ cap⟩
  | _ => False

/-- What is known of the frame where an operation panics. -/
def panFr (dr : Bool) (ops : Array Oper) (f : Fr) : Fr := match dr with | true => maskFr ops f | false => f
theorem frel_pan {cx : Cx} {n : Nat} {f : Fr} {a : Act} (dr : Bool) (ops : Array Oper) (h : FRel cx n f a) : FRel cx n (panFr dr ops f) a := by cases dr; exact h; exact frel_mask ops h

def vcL (P : Program) (hn : Nat → Bool) (dr : Bool) (ops : Array Oper) : List Oper → AQ → Fr → List Blk → List ADef → Prop
  | [], Q, f, H, ds => Q .normal f H ds
  | ⟨dst, op, _, _, _, g⟩ :: rest, Q, f, H, ds =>
    match op, g with
    | .defer c, none => match c.callee with | .value fo => deferV P (ev f fo) (c.args.toList.map (ev f)) fun d => vcL P hn dr ops rest Q (updO f dst (.tup [])) H (d :: ds) | _ => False
    | op, none => vcOp P hn dr H (ev f) dst op (fun r H' => vcL P hn dr ops rest Q (updO f dst r) H' ds) (fun x H' => Q (.pan x) (panFr dr ops f) H' ds)
    | op, some (j, want) => guardV (f (gdst ops j)) want (vcOp P hn dr H (ev f) dst op (fun r H' => vcL P hn dr ops rest Q (updO f dst r) H' ds) (fun x H' => Q (.pan x) (panFr dr ops f) H' ds)) (vcL P hn dr ops rest Q (updO f dst (.tup [])) H ds)

section
variable {P : Program} {n : Nat} {hn : Nat → Bool} {dr : Bool} {od : Nat → Option OPlan}

theorem awl_defer {ops : Array Oper} {rest : List Oper} {o : Oper} {Q : AQ} {f : Fr} {H : List Blk} {ds : List ADef} {c : Call} {fo : Operand} (ho : o.op = .defer c) (hc : c.callee = .value fo) (hg : o.guard = none) (hs : Oper.small n o = true)
    (h : deferV P (ev f fo) (c.args.toList.map (ev f)) fun d => AWL P n ops rest Q (updO f o.dst (.tup [])) H (d :: ds)) : AWL P n ops (o :: rest) Q f H ds := by
  intro B w0 cx0 cx a h1 h2 h3 h4 h5
  refine wpList_plain hg fun K hK => ?_
  simp only [Oper.small, Bool.and_eq_true, Array.all_eq_true'] at hs
  have hd : ∀ t, o.dst = some t → t < n := fun t ht => by have := hs.2; rw [ht] at this; simpa using this
  have hops : ∀ x ∈ o.op.operands, Rep cx false (ev f x) (a.eval x) := fun x hx => ev_rep h4 (hs.1 x hx)
  have hf := hops fo (by simp [Op.operands, Call.operands, ho, hc])
  have ha : RepL cx false (c.args.toList.map (ev f)) (c.args.toList.map a.eval) := RepL.of_map _ fun x hx => hops x (by simp [Op.operands, Call.operands, ho]; right; simpa using hx)
  unfold deferV at h
  split at h
  · rename_i g first cap e
    rw [e] at hf
    generalize hy : a.eval fo = y at hf
    cases hf with
    | fn _ _ _ vf vc hnf hrf hnc hrc =>
      have hrun : (execOp a.eval o).run P cx.w = .ok (.defer { target := .fn (.func g) vc.toArray, args := vf.toArray ++ c.args.map a.eval }) cx.w := by
        simp [execOp, ho, resolve, hc, hy, Deferred.ofValue]
      unfold Oper.wp
      rw [hrun]
      simp only [Oper.upon]
      apply hK
      refine h B w0 cx0 cx _ h1 h2 h3 ?_ ?_
      · exact frel_put (a := { a with defers := _ :: a.defers }) h4 hd (tup_nil_undef _ _)
      · have hdr : DRel cx (⟨g, first ++ c.args.toList.map (ev f) ++ cap⟩ :: ds) ({ target := .fn (.func g) vc.toArray, args := vf.toArray ++ c.args.map a.eval } :: a.defers) := by
          refine ⟨⟨vc.toArray, rfl, ?_⟩, h5⟩
          have := ((RepL.mk hnf hrf).append ha).append (RepL.mk hnc hrc)
          simpa using this
        cases ho' : o.dst <;> exact hdr
  · exact h.elim

theorem vcL_sound {ops : Array Oper} {Q : AQ} : ∀ {rest : List Oper} {f : Fr} {H : List Blk} {ds : List ADef}, rest.all (smallO n ops) = true → vcL P hn false ops rest Q f H ds → AWL P n ops rest Q f H ds
  | [], f, H, ds, _, h => awl_nil h
  | o :: rest, f, H, ds, hs, h => by
    simp only [List.all_cons, Bool.and_eq_true, smallO] at hs
    obtain ⟨⟨hs1, hs2⟩, hsr⟩ := hs
    have hmono : ∀ {K K' : AV → List Blk → Prop} {pan : AV → List Blk → Prop}, (∀ r H', K r H' → K' r H') → OpSem P o (ev f) H K pan → OpSem P o (ev f) H K' pan := by
      intro K K' pan hk hop B w0 cx ρc h1 h2 h3
      have := hop B w0 cx ρc h1 h2 h3
      split at this
      · obtain ⟨cx', r, a1, a2, a3, a4, a5⟩ := this; exact ⟨cx', r, a1, a2, a3, a4, hk _ _ a5⟩
      · obtain ⟨cx', a1, a2, a3, a4⟩ := this; exact ⟨cx', a1, a2, a3, hk _ _ a4⟩
      · obtain ⟨cx', avs, a1, a2, a3, a4, a5⟩ := this
        exact ⟨cx', avs, a1, a2, a3, a4, a5.mono fun e H' he => by cases e <;> first | exact hk _ _ he | exact he⟩
      · exact this
      · exact this
    obtain ⟨dst, op, ty, pos, aft, g⟩ := o
    unfold vcL at h
    split at h
    · split at h
      · rename_i hc
        refine awl_defer (o := ⟨dst, _, ty, pos, aft, none⟩) rfl hc rfl hs1 ?_
        unfold deferV at h ⊢
        split at h
        · exact vcL_sound hsr h
        · exact h.elim
      · exact h.elim
    · exact awl_step rfl hs1 (hmono (fun r H' hk => vcL_sound hsr hk) (vcOp_sound (o := ⟨dst, _, ty, pos, aft, none⟩) h))
    · rename_i j want
      simp only at hs2
      cases hj : (ops[j]?).bind (·.dst) with
      | none => rw [hj] at hs2; simp at hs2
      | some d =>
        rw [hj] at hs2
        have hgd : gdst ops j = d := by simp [gdst, hj]
        rw [hgd] at h
        refine awl_guard (o := ⟨dst, _, ty, pos, aft, some (j, want)⟩) rfl hj (by simpa using hs2) hs1 ?_
        unfold guardV at h ⊢
        split at h
        · exact ⟨fun hb => hmono (fun r H' hk => vcL_sound hsr hk) (vcOp_sound (o := ⟨dst, _, ty, pos, aft, some (j, want)⟩) (h.1 hb)), fun hb => vcL_sound hsr (h.2 hb)⟩
        · exact vcL_sound hsr h
        · exact h.elim

/-! ### Code -/
def planOf (ops : Array Oper) (od : Option OPlan) : OPlan := od.getD ((List.range ops.size).map fun i => (i, []))
def opsAt (ops : Array Oper) (l : List Nat) : List Oper := l.filterMap fun i => ops[i]?
def noDefer (o : Oper) : Bool := match o.op with | .defer _ => false | _ => true
def smallC (hn : Nat → Bool) (od : Nat → Option OPlan) (n : Nat) : Code → Bool
  | .region _ ops false => ops.toList.all (smallO n ops)
  | .region id ops true => ops.toList.all (smallO n ops) && planB (puOf (pureOp hn) ops) hfreeOp ops (planOf ops (od id)) && ops.all noDefer
  | .seq a b => smallC hn od n a && smallC hn od n b
  | .cond c a b => opOk n c && smallC hn od n a && smallC hn od n b
  | .block _ b => smallC hn od n b
  | .loop b => smallC hn od n b
  | .scope b => smallC hn od n b
  | .rangeFunc .. => false
  | _ => true

/-- What an operation told, it tells again. -/
def lateQ (dst : Option Nat) (f : Fr) (H : List Blk) : AQ := fun x f' H' _ => match x with | .normal => H' = H ∧ (match dst with | some d => f' d = f d | none => True) | _ => False
def lateV (P : Program) (hn : Nat → Bool) (ops : Array Oper) (f : Fr) (H : List Blk) : List Oper → Prop
  | [] => True
  | o :: l => vcL P hn true ops [o] (lateQ o.dst f H) f H [] ∧ lateV P hn ops f H l
def vcX (P : Program) (hn : Nat → Bool) (ops : Array Oper) (Q : AQ) (ds : List ADef) : OPlan → Fr → List Blk → Prop
  | [], f, H => Q .normal f H ds
  | (i, late) :: rest, f, H => vcL P hn true ops (opsAt ops [i]) (thenQ (fun f' H' _ => lateV P hn ops f' H' (opsAt ops late) ∧ vcX P hn ops Q ds rest f' H') Q) f H ds
def vcC (P : Program) (hn : Nat → Bool) (od : Nat → Option OPlan) (n : Nat) : Code → AQ → Fr → List Blk → List ADef → Prop
  | .skip, Q, f, H, ds => Q .normal f H ds
  | .region _ ops false, Q, f, H, ds => vcL P hn false ops ops.toList Q f H ds
  | .region id ops true, Q, f, H, ds => match od id with | none => vcL P hn true ops ops.toList Q f H ds | some p => vcX P hn ops Q ds p f H
  | .seq a b, Q, f, H, ds => vcC P hn od n a (thenQ (vcC P hn od n b Q) Q) f H ds
  | .cond c a b, Q, f, H, ds => condV (ev f c) (vcC P hn od n a Q f H ds) (vcC P hn od n b Q f H ds)
  | .block id b, Q, f, H, ds => vcC P hn od n b (blockQ id Q) f H ds
  | .loop b, Q, f, H, ds => AWP P n (.loop b) Q f H ds
  | .scope b, Q, f, H, ds => AWP P n (.scope b) Q f H ds
  | .exit id, Q, f, H, ds => Q (.exit id) f H ds
  | .goto l, Q, f, H, ds => Q (.goto l) f H ds
  | .label _, Q, f, H, ds => Q .normal f H ds
  | .ret, Q, f, H, ds => Q .ret f H ds
  | _, _, _, _, _ => False


theorem pureOf_pu {ops : Array Oper} {i : Nat} {o : Oper} (ho : ops[i]? = some o) (h : puOf (pureOp hn) ops i = true) : pureOp hn o = true := by
  simp only [puOf, ho, Bool.and_eq_true] at h; exact h.1
theorem one_det {ops : Array Oper} {o : Oper} {Q : AQ} {f : Fr} {H : List Blk} {ds : List ADef} (hnd : noDefer o = true) (hp : pureOp hn o = true) (h : vcL P hn true ops [o] Q f H ds) :
    ∃ r, StepD P ops o f H r ∧ (hfreeOp o = true → ∀ H', StepD P ops o f H' r) ∧ Q .normal (updO f o.dst r) H ds := by
  obtain ⟨dst, op, ty, pos, aft, g⟩ := o
  have both : ∀ {K pan : AV → List Blk → Prop}, vcOp P hn true H (ev f) dst op K pan → ∃ r, DetSem P ⟨dst, op, ty, pos, aft, g⟩ (ev f) H r ∧ (hfreeOp ⟨dst, op, ty, pos, aft, g⟩ = true → ∀ H', DetSem P ⟨dst, op, ty, pos, aft, g⟩ (ev f) H' r) ∧ K r H := by
    intro K pan h
    cases hh : hfreeOp ⟨dst, op, ty, pos, aft, g⟩ with
    | true =>
      obtain ⟨r, h1, h2⟩ := vcOp_hfree (o := ⟨dst, op, ty, pos, aft, g⟩) hh h
      exact ⟨r, h1 H, fun _ => h1, h2⟩
    | false =>
      obtain ⟨r, h1, h2⟩ := vcOp_det (o := ⟨dst, op, ty, pos, aft, g⟩) hp h
      exact ⟨r, h1, fun h => absurd h (by simp), h2⟩
  unfold vcL at h
  unfold StepD
  simp only at hnd ⊢
  split at h
  · simp [noDefer] at hnd
  · exact both h
  · rename_i j want
    unfold guardV at h ⊢
    simp only
    split at h
    · rename_i b hb
      by_cases hw : b = want
      · obtain ⟨r, h1, h2, h3⟩ := both (h.1 hw)
        exact ⟨r, ⟨fun _ => h1, fun hne => absurd hw hne⟩, fun hf H' => ⟨fun _ => h2 hf H', fun hne => absurd hw hne⟩, h3⟩
      · exact ⟨_, ⟨fun he => absurd he hw, fun _ => rfl⟩, fun _ _ => ⟨fun he => absurd he hw, fun _ => rfl⟩, h.2 hw⟩
    · exact ⟨_, rfl, fun _ _ => rfl, h⟩
    · exact h.elim
theorem one_bar {ops : Array Oper} {o : Oper} {Q Q' : AQ} {f : Fr} {H : List Blk} {ds : List ADef} (hQ : ∀ x f H ds, Q' (.pan x) f H ds → Q (.pan x) f H ds) (hnd : noDefer o = true) (h : vcL P hn true ops [o] Q' f H ds) :
    StepB P ops o f H ds Q (fun f' H' => Q' .normal f' H' ds) := by
  obtain ⟨dst, op, ty, pos, aft, g⟩ := o
  unfold vcL at h
  unfold StepB
  simp only at hnd ⊢
  split at h
  · simp [noDefer] at hnd
  · exact OpSem.mono (fun _ _ h => h) (fun _ _ h => hQ _ _ _ _ h) (vcOp_sound (o := ⟨dst, _, ty, pos, aft, none⟩) h)
  · rename_i j want
    unfold guardV at h ⊢
    simp only
    split at h
    · exact ⟨fun hb => OpSem.mono (fun _ _ h => h) (fun _ _ h => hQ _ _ _ _ h) (vcOp_sound (o := ⟨dst, _, ty, pos, aft, some (j, want)⟩) (h.1 hb)), h.2⟩
    · exact h
    · exact h.elim
theorem lateV_mem {ops : Array Oper} {f : Fr} {H : List Blk} : ∀ {l : List Oper}, lateV P hn ops f H l → ∀ o ∈ l, vcL P hn true ops [o] (lateQ o.dst f H) f H []
  | [], _, o, ho => by cases ho
  | o' :: l, h, o, ho => by
    rcases List.mem_cons.1 ho with rfl | ho
    · exact h.1
    · exact lateV_mem h.2 o ho
theorem vx_of_vcX {ops : Array Oper} {Q : AQ} {ds : List ADef} (hnd : ops.all noDefer = true) {tab : List (Nat × Oper × Nat)} : ∀ (p : OPlan) (done rem : List Nat) (f : Fr) (H : List Blk),
    planX (puOf (pureOp hn) ops) hfreeOp ops tab done rem p = true → (∀ x ∈ p, ∀ j ∈ x.2, ∀ o, ops[j]? = some o → puOf (pureOp hn) ops j = true) → vcX P hn ops Q ds p f H → VX P (puOf (pureOp hn) ops) hfreeOp ops Q ds p f H
  | [], done, rem, f, H, hc, hl, h => h
  | (i, late) :: rest, done, rem, f, H, hc, hl, h => by
    simp only [planX, Bool.and_eq_true] at hc
    obtain ⟨⟨hrd, hop⟩, hrest⟩ := hc
    simp only [vcX] at h
    simp only [VX]
    cases ho : ops[i]? with
    | none => rw [ho] at hop; cases hop
    | some o =>
      have hndo : noDefer o = true := Array.all_eq_true_iff_forall_mem.1 hnd _ (Array.mem_of_getElem? ho)
      have hone : opsAt ops [i] = [o] := by simp [opsAt, ho]
      rw [hone] at h
      have ih : ∀ {f H}, vcX P hn ops Q ds rest f H → VX P (puOf (pureOp hn) ops) hfreeOp ops Q ds rest f H := fun h => vx_of_vcX hnd rest _ _ _ _ hrest (fun x hx => hl x (by simp [hx])) h
      simp only
      split
      · rename_i hp
        obtain ⟨r, h1, h2, h3⟩ := one_det hndo (pureOf_pu ho hp) h
        exact ⟨r, h1, h2, ih h3.2⟩
      · refine stepB_mono (fun f' H' hk => ⟨fun j hj oj hoj => ?_, ih hk.2⟩) (one_bar (Q := Q) (Q' := thenQ (fun f' H' _ => lateV P hn ops f' H' (opsAt ops late) ∧ vcX P hn ops Q ds rest f' H') Q) (fun _ _ _ _ h => h) hndo h)
        have hpj := hl (i, late) (by simp) j hj oj hoj
        have hndj : noDefer oj = true := Array.all_eq_true_iff_forall_mem.1 hnd _ (Array.mem_of_getElem? hoj)
        have hv := lateV_mem hk.1 oj (by simp only [opsAt, List.mem_filterMap]; exact ⟨j, hj, hoj⟩)
        obtain ⟨r, h1, _, h3⟩ := one_det hndj (pureOf_pu hoj hpj) hv
        refine ⟨r, h1, fun d hd => ?_⟩
        simp only [lateQ, hd] at h3
        have := h3.2
        simpa [updO, upd] using this.symm

theorem opsAt_range (ops : Array Oper) : opsAt ops (List.range ops.size) = ops.toList := by
  apply List.ext_getElem?
  intro i
  have : opsAt ops (List.range ops.size) = (List.range ops.size).pmap (fun i hi => ops[i]'hi) (by simp) := by
    unfold opsAt
    have key : ∀ (l : List Nat) (h : ∀ i ∈ l, i < ops.size), l.filterMap (fun i => ops[i]?) = l.pmap (fun i hi => ops[i]'hi) h := by
      intro l
      induction l with
      | nil => intro h; rfl
      | cons a l ih => intro h; simp [List.filterMap_cons, ih (fun i hi => h i (by simp [hi])), h a (by simp)]
    exact key _ _
  rw [this]
  by_cases hi : i < ops.size
  · simp [hi]
  · simp [hi]
/-- A list of operations, one by one. -/
theorem vcL_cons {ops : Array Oper} {Q : AQ} {ds : List ADef} {o : Oper} {l : List Oper} {f : Fr} {H : List Blk} (hnd : noDefer o = true) (h : vcL P hn dr ops (o :: l) Q f H ds) : vcL P hn dr ops [o] (thenQ (fun f' H' _ => vcL P hn dr ops l Q f' H' ds) Q) f H ds := by
  obtain ⟨dst, op, ty, pos, aft, g⟩ := o
  unfold vcL at h ⊢
  split at h
  · simp [noDefer] at hnd
  · exact h
  · exact h
theorem vx_of_vcL {ops : Array Oper} {Q : AQ} {ds : List ADef} (hnd : ops.all noDefer = true) : ∀ (l : List Nat) (f : Fr) (H : List Blk), (∀ i ∈ l, i < ops.size) → vcL P hn true ops (opsAt ops l) Q f H ds → VX P (puOf (pureOp hn) ops) hfreeOp ops Q ds (l.map fun i => (i, [])) f H
  | [], f, H, hl, h => h
  | i :: l, f, H, hl, h => by
    have ho : ops[i]? = some (ops[i]'(hl i (by simp))) := Array.getElem?_eq_getElem _
    generalize ops[i]'(hl i (by simp)) = o at ho
    have hndo : noDefer o = true := Array.all_eq_true_iff_forall_mem.1 hnd _ (Array.mem_of_getElem? ho)
    have h1 : opsAt ops (i :: l) = o :: opsAt ops l := by simp [opsAt, ho]
    rw [h1] at h
    simp only [List.map_cons, VX, ho]
    have h3 := vcL_cons hndo h
    split
    · rename_i hp
      obtain ⟨r, q1, q2, q3⟩ := one_det hndo (pureOf_pu ho hp) h3
      exact ⟨r, q1, q2, vx_of_vcL hnd l _ _ (fun k hk => hl k (by simp [hk])) q3⟩
    · exact stepB_mono (fun f' H' hk => ⟨fun j hj => (by cases hj), vx_of_vcL hnd l _ _ (fun k hk => hl k (by simp [hk])) hk⟩) (one_bar (Q := Q) (Q' := thenQ (fun f' H' _ => vcL P hn true ops (opsAt ops l) Q f' H' ds) Q) (fun _ _ _ _ h => h) hndo h3)

theorem vcC_sound : ∀ {c : Code} {Q : AQ} {f : Fr} {H : List Blk} {ds : List ADef}, P.follows .mixedOrders = true → smallC hn od n c = true → vcC P hn od n c Q f H ds → AWP P n c Q f H ds
  | .skip, Q, f, H, ds, hm, _, h => awp_skip h
  | .region id ops false, Q, f, H, ds, hm, hs, h => by
    have := awp_region (id := id) (l := ops.toList) (vcL_sound (ops := ops.toList.toArray) (by simpa [smallC] using hs) (by simpa using (show vcL P hn false ops ops.toList Q f H ds from h)))
    simpa using this
  | .region id ops true, Q, f, H, ds, hm, hs, h => by
    simp only [smallC, Bool.and_eq_true, List.all_eq_true] at hs
    obtain ⟨⟨hs1, hs2⟩, hs3⟩ := hs
    have hsm : ∀ (i : Nat) (o : Oper), ops[i]? = some o → smallO n ops o = true := fun i o ho => hs1 o (by simpa using Array.mem_of_getElem? ho)
    refine awp_region_draw hm hsm hs2 ?_
    have h' : (match od id with | none => vcL P hn true ops ops.toList Q f H ds | some p => vcX P hn ops Q ds p f H) := h
    clear h
    cases hp : od id with
    | none =>
      rw [hp] at h'
      simp only [planOf, Option.getD_none]
      rw [← opsAt_range] at h'
      exact vx_of_vcL hs3 _ f H (fun i hi => by simpa using hi) h'
    | some p =>
      rw [hp] at h' hs2
      simp only [planOf, Option.getD_some] at hs2 ⊢
      simp only [planB, Bool.and_eq_true] at hs2
      simp only [lateB, List.all_eq_true] at hs2
      refine vx_of_vcX hs3 p [] (List.range ops.size) f H hs2.1.1 (fun x hx j hj o ho => ?_) h'
      have := hs2.1.2 x hx j hj
      rw [ho] at this; exact this
  | .seq a b, Q, f, H, ds, hm, hs, h => by
    simp only [smallC, Bool.and_eq_true] at hs
    refine awp_seq ((vcC_sound hm hs.1 h).mono fun x f' H' ds' hx => ?_)
    cases x <;> first | exact vcC_sound hm hs.2 hx | exact hx
  | .cond c a b, Q, f, H, ds, hm, hs, h => by
    simp only [smallC, Bool.and_eq_true] at hs
    refine awp_cond hs.1.1 ?_
    have h' : condV (ev f c) (vcC P hn od n a Q f H ds) (vcC P hn od n b Q f H ds) := h
    unfold condV at h' ⊢
    split at h'
    · exact vcC_sound hm hs.1.2 h'
    · exact vcC_sound hm hs.2 h'
    · exact h'.elim
  | .block id b, Q, f, H, ds, hm, hs, h => awp_block (vcC_sound hm hs h)
  | .loop b, Q, f, H, ds, hm, _, h => h
  | .scope b, Q, f, H, ds, hm, _, h => h
  | .exit id, Q, f, H, ds, hm, _, h => awp_exit h
  | .goto l, Q, f, H, ds, hm, _, h => awp_goto h
  | .label l, Q, f, H, ds, hm, _, h => awp_label h
  | .ret, Q, f, H, ds, hm, _, h => awp_ret h
  | .rangeFunc .., Q, f, H, ds, hm, _, h => h.elim
  | .refuse .., Q, f, H, ds, hm, _, h => h.elim

/-! ### A function -/
def frm : List AV → Nat → Fr
  | [], _ => fun _ => .tup []
  | a :: as, i => upd (frm as (i + 1)) i a
theorem frm_get : ∀ (args : List AV) (i t : Nat), frm args i t = if i ≤ t then args.getD (t - i) (.tup []) else .tup []
  | [], i, t => by simp [frm]
  | a :: as, i, t => by
    simp only [frm, upd, frm_get as (i + 1) t]
    by_cases h : t = i
    · subst h; simp
    · rw [if_neg h]
      by_cases h1 : i + 1 ≤ t
      · rw [if_pos h1, if_pos (by omega), show t - i = (t - (i + 1)) + 1 by omega]; simp
      · rw [if_neg h1, if_neg (by omega)]

/-- What is told of a slot, or of a variable in memory. -/
def resOne (P : Program) (H : List Blk) (f : Fr) : ResultVar → Option AV
  | .tmp t => some (f t)
  | .cell a t => match cellsAt H (f a), szOf P t, aggOf P t with | some cs, some sz, some b => aload b sz cs | _, _, _ => none
def resAll (P : Program) (H : List Blk) (f : Fr) : List ResultVar → Option (List AV)
  | [] => some []
  | r :: rs => match resOne P H f r, resAll P H f rs with | some x, some xs => some (x :: xs) | _, _ => none
def resTup : List AV → AV
  | [x] => x
  | xs => .tup xs
def resOk (n : Nat) : ResultVar → Bool
  | .tmp t => t < n
  | .cell a _ => a < n
def retQ (P : Program) (rs : List ResultVar) (R : AE → List Blk → Prop) : AQ := fun x f H ds =>
  match x with
  | .normal => ds = [] ∧ bindO (resAll P H f rs) fun xs => R (.ret (resTup xs)) H
  | .ret => ds = [] ∧ bindO (resAll P H f rs) fun xs => R (.ret (resTup xs)) H
  | .pan x => ds = [] ∧ R (.pan x) H
  | _ => False

def resSem (tmps : Array Value) : ResultVar → Sem Value
  | .tmp t => pure (tmps.getD t undef)
  | .cell a t => do loadVar t (← asAddr (tmps.getD a undef))
theorem res_rep {B : Nat} {w0 : World} {cx : Cx} (h : HRel B w0 cx) {f : Fr} {a : Act} (hf : FRel cx n f a) : ∀ (rs : List ResultVar) (xs : List AV), rs.all (resOk n) = true → resAll P cx.H f rs = some xs →
    ∃ vs : List Value, (rs.mapM (resSem a.tmps)).run P cx.w = .ok vs cx.w ∧ RepL cx false xs vs
  | [], xs, _, h => by simp [resAll] at h; subst h; exact ⟨[], by simp, RepL.nil _ _⟩
  | r :: rs, xs, hok, hx => by
    simp only [List.all_cons, Bool.and_eq_true] at hok
    simp only [resAll] at hx
    split at hx
    · rename_i x xs' h1 h2
      cases hx
      obtain ⟨vs, e1, e2⟩ := res_rep h hf rs xs' hok.2 h2
      cases r with
      | tmp t =>
        simp only [resOne] at h1; cases h1
        refine ⟨a.tmps.getD t undef :: vs, ?_, e2.cons (hf.2 t (by simpa [resOk] using hok.1))⟩
        simp only [List.mapM_cons, Sem.run_bind, resSem, Sem.run_pure, Result.andThen_ok, e1]
      | cell p t =>
        simp only [resOne] at h1
        split at h1
        · rename_i cs sz b hc hsz hag
          have hp := hf.2 p (by simpa [resOk] using hok.1)
          obtain ⟨y, hy, hr⟩ := run_loadAt (P := P) h hsz hag hc h1 hp
          obtain ⟨bb, oo, vals, hptr, _, _⟩ := cellsAt_rep h hc hp
          have hl : (resSem a.tmps (.cell p t)).run P cx.w = .ok y cx.w := by
            simp only [resSem]
            rw [hptr] at hy ⊢
            simpa [Instr.loadAt, Instr.sureAddr, asAddr] using hy
          refine ⟨y :: vs, ?_, e2.cons hr⟩
          simp only [List.mapM_cons, Sem.run_bind, hl, Sem.run_pure, Result.andThen_ok, e1]
        · cases h1
    · cases hx

theorem results_rep {B : Nat} {w0 : World} {cx : Cx} {fn : Func} (h : HRel B w0 cx) {f : Fr} {a : Act} (hf : FRel cx n f a) {xs : List AV} (hok : fn.results.toList.all (resOk n) = true) (hx : resAll P cx.H f fn.results.toList = some xs) :
    ∃ y, (results fn a.tmps).run P cx.w = .ok y cx.w ∧ Rep cx false (resTup xs) y := by
  obtain ⟨vs, e1, e2⟩ := res_rep (P := P) h hf _ xs hok hx
  refine ⟨if h : vs.toArray.size = 1 then vs.toArray[0] else .tuple vs.toArray, ?_, ?_⟩
  · have hm : (fn.results.mapM (resSem a.tmps)).run P cx.w = .ok vs.toArray cx.w := by
      rw [Array.mapM_eq_mapM_toList, Sem.run_map, e1]; rfl
    show (fn.results.mapM (resSem a.tmps) >>= fun vs => pure (if h : vs.size = 1 then vs[0] else .tuple vs)).run P cx.w = _
    rw [Sem.run_bind, hm]
    rfl
  · match xs, vs, e2 with
    | [], vs, e2 => obtain rfl := e2.nil_inv; exact rep_tup (RepL.nil _ _)
    | [x], vs, e2 => obtain ⟨y, ys, rfl, h1, h2⟩ := e2.cons_inv; obtain rfl := h2.nil_inv; exact h1
    | x :: x' :: xs, vs, e2 =>
      obtain ⟨y, ys, rfl, h1, h2⟩ := e2.cons_inv
      obtain ⟨y', ys', rfl, h3, h4⟩ := h2.cons_inv
      simp
      have := rep_tup e2
      simpa [resTup] using this

theorem acalls_of_vc {fid : FuncId} {fn : Func} {c : Code} {args : List AV} {H : List Blk} {R : AE → List Blk → Prop} (hf : P.funcs[fid]? = some fn) (hb : fn.body = some c)
    (hs : (smallC hn od fn.ntmps c && fn.results.toList.all (resOk fn.ntmps) && decide (args.length ≤ fn.ntmps) && P.follows .mixedOrders) = true)
    (h : vcC P hn od fn.ntmps c (retQ P fn.results.toList R) (frm args 0) H []) : ACalls P fid args H R := by
  simp only [Bool.and_eq_true, decide_eq_true_eq] at hs
  obtain ⟨⟨⟨hs1, hs2⟩, hs3⟩, hm⟩ := hs
  intro B w0 cx vals h1 h2 h3
  refine calls_of_wp hf hb ?_
  have hlen : vals.length = args.length := h3.len.symm
  have hfr : FRel cx fn.ntmps (frm args 0) { tmps := vals.toArray ++ Array.replicate (fn.ntmps - vals.toArray.size) undef, defers := [] } := by
    refine ⟨by simp; omega, fun t ht => ?_⟩
    rw [frm_get]
    simp only [Nat.zero_le, if_true, Nat.sub_zero]
    rw [Array.getD_eq_getD_getElem?, Array.getElem?_append]
    by_cases htl : t < vals.length
    · have e1 : args.getD t (.tup []) = args[t]'(by omega) := by simp [List.getD_eq_getElem?_getD, List.getElem?_eq_getElem (show t < args.length by omega)]
      rw [e1, if_pos (by simpa using htl)]
      simp only [List.getElem?_toArray, List.getElem?_eq_getElem htl, Option.getD_some]
      exact h3.rep t _ _ (List.getElem?_eq_getElem (by omega)) (List.getElem?_eq_getElem htl)
    · have e1 : args.getD t (.tup []) = .tup [] := by simp [List.getD_eq_getElem?_getD, List.getElem?_eq_none (show args.length ≤ t by omega)]
      rw [e1, if_neg (by simpa using htl)]
      have : ((Array.replicate (fn.ntmps - vals.toArray.size) undef)[t - vals.toArray.size]?).getD undef = undef := by
        rw [Array.getElem?_replicate]; split <;> rfl
      rw [this]; exact tup_nil_undef _ _
  refine wp_mono (vcC_sound hm hs1 h B w0 cx cx _ h1 (Le.refl _) h2 hfr trivial) fun e a' w' hp => ?_
  obtain ⟨cx', x, f', ds', rfl, b1, b2, b3, b4, b5, b6⟩ := hp
  have dnil : ds' = [] → a'.defers = [] := fun hd => by
    subst hd
    cases hdd : a'.defers with
    | nil => rfl
    | cons d l => rw [hdd] at b4; exact b4.elim
  cases e <;> cases x <;> first | exact b5.elim | skip
  · obtain ⟨hd, xs, hx, hR⟩ := b6
    obtain ⟨y, hy, hr⟩ := results_rep (P := P) b1 b3 hs2 hx
    exact ⟨dnil hd, y, hy, cx', _, rfl, b1, b2, hr, hR⟩
  · exact b6.elim
  · exact b6.elim
  · obtain ⟨hd, xs, hx, hR⟩ := b6
    obtain ⟨y, hy, hr⟩ := results_rep (P := P) b1 b3 hs2 hx
    exact ⟨dnil hd, y, hy, cx', _, rfl, b1, b2, hr, hR⟩
  · obtain ⟨hd, hR⟩ := b6
    obtain ⟨y, hch, hr⟩ := b5
    exact ⟨dnil hd, cx', _, y, rfl, b1, b2, hch, hr, hR⟩
end
end Go.Mu
