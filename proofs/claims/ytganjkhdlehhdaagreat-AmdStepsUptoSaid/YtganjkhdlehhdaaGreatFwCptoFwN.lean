/- Operations over abstract values: copy into a row of one's own (elements of one cell). -/
import Derived.Test.YtganjkhdlehhdaaGreatFwI
import Derived.Laws.CopyRow
import Derived.Laws.IdiomCopy
import Derived.Test.YtganjkhdlehhdaaGreatFwM
import Derived.Test.YtganjkhdlehhdaaGreatFwJb
set_option linter.unusedVariables false
set_option linter.unusedSimpArgs false
namespace Go.Mu
open Go.RowKit (Below)
def copyV (H : List Blk) (d : AV) (ys : List (List AV)) (K : AV → List Blk → Prop) : Prop :=
  match d with
  | .hs k off n ver => match H[k]? with
    | some (.row t z es) => andV (z = 1 ∧ es.length = ver ∧ off + n ≤ ver) (K (.v (.int .i64 (min ys.length n : Nat))) (H.set k (.row t z (es.take off ++ ys.take n ++ es.drop (off + min ys.length n)))))
    | _ => False
  | _ => False
section
variable {P : Program} {o : Oper} {ρ : Operand → AV} {H : List Blk} {K pan : AV → List Blk → Prop}
theorem exec_copy {d s : Operand} {t t' : TypeId} (ho : o.op = .call { callee := .builtin .copy, args := #[d, s], argTypes := #[t, t'] }) (ρc : Operand → Value) (w : World) :
    (execOp ρc o).run P w = ((Builtin.copy_ #[t, t'] o.type #[ρc d, ρc s]).run P w).andThen fun v w => .ok (.value v) w := by
  simp [execOp, ho, resolve, invoke, builtin]
theorem sound_copy {d s : Operand} {t t' : TypeId} (ho : o.op = .call { callee := .builtin .copy, args := #[d, s], argTypes := #[t, t'] })
    (h : bindO (slbOf P t) fun sl => andV (sl.2.1 = 1) (bindO (srcEs H 1 (ρ s)) fun ys => copyV H (ρ d) ys K)) : OpSem P o ρ H K pan := by
  obtain ⟨⟨e, sz, zc, by_⟩, hs, hz1, ys, hys, h⟩ := h
  obtain ⟨ie, z, hu, hi, hz, hzs, his, h0, hzc, hby⟩ := slbOf_spec hs
  simp only at hz1
  subst hz1
  refine opsem_val fun B w0 cx ρc h1 h2 h3 => ?_
  have hdr := h3 d (by simp [Op.operands, Call.operands, ho])
  have hxr := h3 s (by simp [Op.operands, Call.operands, ho])
  rw [exec_copy ho]
  obtain ⟨ax, cxp, hyx, hlc, hsrc⟩ := src_rep h1 (h2 ▸ hys) hxr
  rw [hyx]
  unfold copyV at h
  split at h
  · rename_i k off n ver ed
    split at h
    · rename_i t2 z2 es hk
      obtain ⟨⟨hz2, hver, hfit⟩, hK⟩ := h
      subst hz2
      have hk' : cx.H[k]? = some (.row t2 1 es) := h2 ▸ hk
      rw [ed] at hdr
      generalize hyy : ρc d = y at hdr
      cases hdr with
      | hs _ _ _ _ _ hone' bl hkk hp =>
        rw [hk'] at hkk; cases hkk
        rcases hp with hf | ⟨t'', sz'', es'', heq, hle, hyv⟩
        · simp [Blk.fixed] at hf
        · cases heq
          obtain ⟨hoff, hy⟩ := hyv hver
          subst hy
          simp only [Nat.mul_one] at hyy ⊢
          obtain ⟨b1, b2, b3, b4, b5, b6, cur, b7, b8, b9, b10⟩ := h1.blk k _ hk'
          simp only [Nat.mul_one] at b8 b9
          by_cases hm : min ys.length n = 0
          · have hr := run_copy_none (P := P) cx.w t t' o.type e (some ⟨cx.κ k, off, none⟩) ax n (cx.γ k - off) ys.length cxp hu (by simp [hi, his]) hm
            have he : es.take off ++ ys.take n ++ es.drop (off + min ys.length n) = es := by
              have : ys.take n = [] := List.eq_nil_of_length_eq_zero (by rw [List.length_take, Nat.min_comm]; exact hm)
              rw [this, hm, List.append_nil, Nat.add_zero, List.take_append_drop]
            rw [he, hm] at hK
            have hsame : cx.H.set k (.row t2 1 es) = cx.H := by
              apply List.ext_getElem?
              intro i
              by_cases hi' : k = i
              · subst hi'; rw [set_some hk', hk']
              · rw [set_other hi']
            refine ⟨cx, .v (.int .i64 0), .int .i64 0, ?_, h1, Le.refl _, .v _, ?_⟩
            · rw [hr]; rfl
            · rw [← h2, hsame] at hK; exact hK
          · rcases hsrc with hn | ⟨b, so, vals, rfl, hrv, hcell, hone, hyl, hz0, _⟩
            · subst hn; simp at hm
            have hvl : vals.length = ys.length := by rw [← hrv.len, flatten_len _ _ hyl, Nat.mul_one]
            obtain ⟨m, hmm⟩ : ∃ m, m = min ys.length n := ⟨_, rfl⟩
            have hcl : (vals.take n).length = m := by rw [List.length_take, hvl, hmm, Nat.min_comm]
            have hzl : (ys.take n).length = m := by rw [List.length_take, hmm, Nat.min_comm]
            have hmn : m ≤ n := by omega
            have hr := run_copy_row (P := P) cx.w t t' o.type e (cx.κ k) off n (cx.γ k - off) ⟨b, so, none⟩ ys.length cxp cur.toArray t2 (vals.take n) hu (by simp [hi, his]) b7 (hcl.trans hmm)
              (fun j v hv => by rw [Addr.add_lit]; exact hcell j v (by
              rw [List.getElem?_take] at hv
              split at hv
              · exact hv
              · cases hv)) (by rw [hcl]; simp; omega) (fun v hv => hone v (List.mem_of_mem_take hv))
            have hspl : (cur.toArray.toList.take off ++ vals.take n ++ cur.toArray.toList.drop (off + (vals.take n).length)) = spl cur off (vals.take n) := rfl
            rw [hspl] at hr
            have hsl : (spl cur off (vals.take n)).length = cx.γ k * 1 := by rw [spl_length _ _ _ (by rw [hcl, b8]; omega), b8, Nat.mul_one]
            have hl3 : (es.take off ++ ys.take n ++ es.drop (off + m)).length = es.length := by simp [hzl]; omega
            rw [← hmm] at hK
            obtain ⟨c1, c2⟩ := put_row (es' := es.take off ++ ys.take n ++ es.drop (off + m)) (vals' := spl cur off (vals.take n)) h1 hk' (fun e' he' => by
                rcases List.mem_append.1 he' with hq | hq
                · rcases List.mem_append.1 hq with hq | hq
                  · exact b4 _ (List.mem_of_mem_take hq)
                  · exact hyl _ (List.mem_of_mem_take hq)
                · exact b4 _ (List.mem_of_mem_drop hq)) (by rw [hl3]; omega) (by rw [hl3]; exact b5) hsl (by
                rw [hl3, Nat.mul_one, spl_take _ _ _ _ (by rw [hcl]; omega) (by rw [b8]; exact b5)]
                rw [List.flatten_append, List.flatten_append, flatten_take _ 1 _ b4, flatten_drop _ 1 _ b4, flatten_take _ 1 _ hyl]
                simp only [Nat.mul_one]
                have hq := b9.spl off (hrv.take n)
                have e2 : spl es.flatten off (ys.flatten.take n) = es.flatten.take off ++ ys.flatten.take n ++ es.flatten.drop (off + m) := by
                  unfold spl
                  rw [List.length_take, flatten_len _ _ hyl, Nat.mul_one, hmm, Nat.min_comm]
                rw [← e2]; exact hq) (spl_mem b10 (fun v hv => hone v (List.mem_of_mem_take hv)))
            refine ⟨_, .v (.int .i64 m), .int .i64 m, ?_, c2, c1, .v _, ?_⟩
            · rw [hr, hcl]; rfl
            · show K _ (cx.H.set k _); rw [h2]; exact hK
    · exact h.elim
  · exact h.elim
end
end Go.Mu
namespace Go.Mu
open Go.RowKit (Below)
def isNonIface (P : Program) (t : TypeId) : Bool := match P.underlying t with | some (.interface _) => false | some _ => true | none => false
def tupGet (x : AV) (i : Nat) : Option AV := match x with | .tup xs => xs[i]? | _ => none
def panV (x : AV) (k : Prop) : Prop := match x with | .ifc _ _ => k | _ => False
def mapUpd (H : List Blk) (m : AV) (k : Option Value) (x : AV) (d : TypeDesc) (K : List Blk → Prop) : Prop :=
  match m with
  | .hm h => bindO (mapEs H (.hm h)) fun es => bindO k fun k => bindO (mset d k x es) fun es' => K (H.set h (.map es'))
  | .hg h => bindO (mapEs H (.hg h)) fun es => bindO k fun k => bindO (mset d k x es) fun es' => K (H.set h (.mapg es'))
  | _ => False
def mapDel (H : List Blk) (m : AV) (k : Option Value) (d : TypeDesc) (K : List Blk → Prop) : Prop :=
  match m with
  | .hg h => bindO (mapEs H (.hg h)) fun es => bindO k fun k => bindO (mdel d k es) fun es' => K (H.set h (.mapg es'))
  | _ => False
def mapUpdK (H : List Blk) (m : AV) (k : Option Value) (x : AV) (ks : List TypeDesc) (K : List Blk → Prop) : Prop :=
  match m with
  | .hm h => bindO (mapEs H (.hm h)) fun es => bindO k fun k => andV (okK ks k = true) (bindO (msetK ks k x es) fun es' => K (H.set h (.map es')))
  | _ => False
def bsR (b : Bool) (sz : Nat) (es : List (List AV)) : AV := match b with | true => .vx sz es | false => .vs sz es
@[simp] theorem bsR_f (sz : Nat) (es : List (List AV)) : bsR false sz es = .vs sz es := (rfl)
def appFz (s x : AV) (sl : TypeId × Nat × List Value × Nat) (K : AV → Prop) : Prop :=
  match s, x with
  | .v (.slice none 0 0), .vs sz ys => andV (sz = sl.2.1) (andV (ys.length * sl.2.2.2 ≤ 140737488355328 ∧ ys.length ≤ 9223372036854775807) (K (.vs sz ys)))
  | .vx sz' xs, .vs sz ys => andV (sz' = sl.2.1 ∧ sz = sl.2.1) (andV ((xs.length + ys.length) * sl.2.2.2 ≤ 140737488355328 ∧ xs.length + ys.length ≤ 9223372036854775807) (K (.vs sz (xs ++ ys))))
  | _, _ => False
def callB (P : Program) (hn : Nat → Bool) (H : List Blk) (ρ : Operand → AV) (dst : Option Tmp) (b : Builtin) (args : List Operand) (ts : List TypeId) (K : AV → List Blk → Prop) : Prop :=
  match b, args, ts with
  | .len, [x], [t] => bindO (lenV H (lkOf P t) (ρ x)) fun n => K (.v (.int .i64 n)) H
  | .append, [s, x], [t, t'] => andV (t = t') (bindO (slbOf P t) fun sl =>
      if hn (dst.getD 0) then andV (sl.2.2.1.all Value.oneCell' = true) (bindO (srcEs H sl.2.1 (ρ x)) fun ys => appendV H sl (ρ s) ys K)
      else appFz (ρ s) (ρ x) sl fun r => K r H)
  | .min, [x, y], _ => bindO (minA (ρ x) (ρ y)) fun r => K r H
  | .max, [x, y], _ => bindO (maxA (ρ x) (ρ y)) fun r => K r H
  | .delete, [m, i], [t, _] => bindO (mapOf P t) fun mm => mapDel H (ρ m) (keyA (ρ i)) mm.1 fun H' => K (.tup []) H'
  | .copy, [d, s], [t, _] => bindO (slbOf P t) fun sl => andV (sl.2.1 = 1) (bindO (srcEs H 1 (ρ s)) fun ys => copyV H (ρ d) ys K)
  | _, _, _ => False
def callDV (P : Program) (H : List Blk) (fv : AV) (args : List AV) (K : AV → List Blk → Prop) : Prop :=
  match fv with
  | .fn (.func g) first cap => andV (okFn P g = true) (∃ r, ACalls P g (first ++ args ++ cap) H (fun e H' => e = .ret r ∧ H' = H) ∧ K r H)
  | _ => False
def callTV (P : Program) (hn : Nat → Bool) (dr : Bool) (H : List Blk) (dst : Option Tmp) (fv : AV) (args : List AV) (K pan : AV → List Blk → Prop) : Prop :=
  if (dr && !hn (dst.getD 0)) = true then callDV P H fv args K else callV P H fv args K pan
def callC (P : Program) (hn : Nat → Bool) (dr : Bool) (H : List Blk) (ρ : Operand → AV) (dst : Option Tmp) (c : Call) (K pan : AV → List Blk → Prop) : Prop :=
  match c.callee with
  | .value fo => callTV P hn dr H dst (ρ fo) (c.args.toList.map ρ) K pan
  | .builtin b => callB P hn H ρ dst b c.args.toList c.argTypes.toList K
  | _ => False
def nilSlC (y : Operand) : Bool := match y with | .tmp _ => false | .const (.slice none 0 0) => true | _ => false
def vcOp (P : Program) (hn : Nat → Bool) (dr : Bool) (H : List Blk) (ρ : Operand → AV) (dst : Option Tmp) (op : Op) (K pan : AV → List Blk → Prop) : Prop :=
  match op with
  | .move x | .assign x => bindV (ρ x) fun a => K a H
  | .pick c a b => condV (ρ c) (bindV (ρ a) fun a => K a H) (bindV (ρ b) fun a => K a H)
  | .alloc t => bindO (zeroOf P t) fun z => K (.bp H.length 0) (H ++ [.box t (z.cells.toList.map .v)])
  | .box t x => bindO (avCells (ρ x)) fun cs => K (.bp H.length 0) (H ++ [.box t cs])
  | .load t x => bindO (cellsAt H (ρ x)) fun cs => bindO (szOf P t) fun sz => bindO (aggOf P t) fun b => bindO (aload b sz cs) fun r => K r H
  | .store t a x => bindO (avCells (ρ x)) fun xs => andV (szOf P t = some xs.length ∧ xs.all AV.one = true) (bindO (astore H (ρ a) xs) fun H' => K (.tup []) H')
  | .fieldAddr s x i => bindO (fldOf P s i) fun fl => bindO (cellsAt H (ρ x)) fun _ => andV (fl.2.1 ≠ 0) (bindO (padd (ρ x) fl.1) fun p => K p H)
  | .field s x i => bindO (fldOf P s i) fun fl => bindO (aggCells (ρ x)) fun cs => bindO (partA fl.2.2 fl.2.1 fl.1 cs) fun r => K r H
  | .indexAddr t x i => match arOf P t with
    | some ar => bindO (szOf P ar.2) fun sz => bindO (intA (ρ i)) fun n => idxA H ar.1 sz (ρ x) n fun r => K r H
    | none => bindO (elOf P t) fun e => bindO (szOf P e) fun sz => bindO (intA (ρ i)) fun n => idxV H sz (ρ x) n fun r => K r H
  | .index t x i => match arOf P t with
    | some ar => bindO (szOf P ar.2) fun sz => bindO (aggOf P ar.2) fun agg => bindO (intA (ρ i)) fun n => bindO (idxVal (ρ x) agg ar.1 sz n) fun r => K r H
    | none => andV (lkOf P t = 2) (bindO (strA (ρ x)) fun s => bindO (intA (ρ i)) fun n => andV (0 ≤ n) (bindO (s.data.toList[n.toNat]?) fun b => K (.v (.int .u8 b.toNat)) H))
  | .slice t x lo hi none => match arpOf P t with
    | some ar => bindO (szOf P ar.2) fun sz => bindO (optI (lo.map ρ)) fun l => bindO (optI (hi.map ρ)) fun hh => sliceA ar.1 sz (ρ x) l hh fun r => K r H
    | none => bindO (elOf P t) fun e => bindO (szOf P e) fun sz => bindO (optI (lo.map ρ)) fun l => bindO (optI (hi.map ρ)) fun hh => sliceV H sz (ρ x) l hh fun r => K r H
  | .makeSlice t ln cp => bindO (slbOf P t) fun sl => bindO (intA (ρ ln)) fun n => bindO (intA (ρ cp)) fun c => andV (0 ≤ n ∧ n ≤ c ∧ (sl.2.2.2 : Int) * c ≤ 281474976710656 ∧ c ≤ 9223372036854775807 ∧ sl.2.2.1.all Value.oneCell' = true)
      (K (.hs H.length 0 n.toNat n.toNat) (H ++ [.row sl.1 sl.2.1 (List.replicate n.toNat (sl.2.2.1.map .v))]))
  | .binOp op t x y _ => if isNum (ρ x) then bindO (binA2 op (ρ x) (ρ y)) fun r => K r H else if (nilSlC y && isNilSl (ρ y)) = true then andV (eqOp op = true ∧ (elOf P t).isSome = true) (slNil (ρ x) fun b => K (.v (.bool (eqVal op b))) H) else andV (nnB (ρ x) (ρ y) (constB x || constB y) = true) (bindO (binE P op t (ρ x) (ρ y)) fun r => K r H)
  | .unOp op _ x => bindO (unA op (ρ x)) fun r => K r H
  | .convert s t x => convV P s t (kOf P t) (ρ x) fun r => K r H
  | .nilCheck x => bindO (cellsAt H (ρ x)) fun _ => K (ρ x) H
  | .extract x i => bindO (tupGet (ρ x) i) fun r => K r H
  | .makeInterface t x => andV (isNonIface P t = true) (K (.ifc t (ρ x)) H)
  | .build t parts => bindO (bldOf P t) fun zp => bindO (afill (fun i => zp.2[i]?) (zp.1.map .v) (parts.toList.map fun x => (x.1, ρ x.2))) fun cs => K (.agg cs) H
  | .buildSlice t len parts => bindO (slbOf P t) fun sl => andV (len * sl.2.1 ≤ 2 ^ 24) (bindO (afillS sl.2.1 (List.replicate len (sl.2.2.1.map .v)) (parts.toList.map fun x => (x.1, ρ x.2))) fun es =>
      if hn (dst.getD 0) then andV (es.flatten.all AV.one = true) (K (.hs H.length 0 len len) (H ++ [.row sl.1 sl.2.1 es]))
      else andV (es.flatten.all AV.frzB = true ∧ es.flatten.all AV.one = true) (K (bsR (hn (dst.getD 0 + 1000000)) sl.2.1 es) H))
  | .makeFunc fn first cap => K (.fn fn (first.toList.map ρ) (cap.toList.map ρ)) H
  | .panic x => panV (ρ x) (pan (ρ x) H)
  | .typeAssert x _ t ok => andV (isNonIface P t = true) (bindO (zeroOf P t) fun z => bindO (assertV (ρ x) t z ok) fun r => K r H)
  | .makeMap _ none => K (.hm H.length) (H ++ [.map []])
  | .lookup t x i ok => if (mapOf P t).isSome = true then (bindO (mapOf P t) fun m => bindO (mapEs H (ρ x)) fun es => bindO (keyA (ρ i)) fun k => bindO (mfind m.1 k es) fun r =>
      K (if ok then .tup [r.getD (assertV.avZ m.2), .v (.bool r.isSome)] else r.getD (assertV.avZ m.2)) H) else
      (bindO (mapOfK P t) fun m => bindO (mapEs H (ρ x)) fun es => bindO (keyG (ρ i)) fun k => andV (okK m.2.1 k = true) (bindO (mfindK m.2.1 k es) fun r =>
      K (if ok then .tup [r.getD (assertV.avZ m.2.2), .v (.bool r.isSome)] else r.getD (assertV.avZ m.2.2)) H))
  | .mapUpdate t m i x | .insert t m i x => if (mapOf P t).isSome = true then (bindO (mapOf P t) fun mm => mapUpd H (ρ m) (keyA (ρ i)) (ρ x) mm.1 fun H' => K (.tup []) H') else
      (bindO (mapOfK P t) fun mm => mapUpdK H (ρ m) (keyG (ρ i)) (ρ x) mm.2.1 fun H' => K (.tup []) H')
  | .mapEntry t m i => bindO (mapOf P t) fun mm => entV H (ρ m) (keyA (ρ i)) mm K
  | .entryStore t m s x => entStV H (ρ m) (ρ s) (ρ x) K
  | .call c => callC P hn dr H ρ dst c K pan
  | .range t x => andV (isMapT P t = true) (rangeV H (ρ x) K)
  | .next x false => nextV H (ρ x) K
  | .entry x => entryV H (ρ x) K
  | _ => False
theorem callDV_callV {P : Program} {H : List Blk} {fv : AV} {args : List AV} {K pan : AV → List Blk → Prop} (h : callDV P H fv args K) : callV P H fv args K pan := by
  unfold callDV at h
  unfold callV
  split at h
  · obtain ⟨h1, r, h2, h3⟩ := h
    exact ⟨h1, h2.mono fun e H' he => by obtain ⟨rfl, rfl⟩ := he; exact h3⟩
  · exact h.elim
theorem vcOp_sound {P : Program} {hn : Nat → Bool} {dr : Bool} {H : List Blk} {ρ : Operand → AV} {o : Oper} {K pan : AV → List Blk → Prop} (h : vcOp P hn dr H ρ o.dst o.op K pan) : OpSem P o ρ H K pan := by
  unfold vcOp at h
  split at h <;> rename_i ho
  · exact sound_move (.inl ho) h
  · exact sound_move (.inr ho) h
  · exact sound_pick ho h
  · exact sound_alloc ho h
  · exact sound_box ho h
  · exact sound_load ho h
  · exact sound_store ho h
  · exact sound_fieldAddr ho h
  · exact sound_field ho h
  · split at h
    · rename_i ar ha; exact sound_indexAddrA ho ⟨ar, ha, h⟩
    · exact sound_indexAddr ho h
  · split at h
    · rename_i ar ha; exact sound_indexArr ho ⟨ar, ha, h⟩
    · exact sound_indexStr ho h
  · split at h
    · rename_i ar ha; exact sound_sliceA ho ⟨ar, ha, h⟩
    · exact sound_slice ho h
  · exact sound_makeSlice ho h
  · split at h
    · exact sound_bin ho h
    · split at h
      · rename_i hsl; simp only [Bool.and_eq_true] at hsl; exact sound_sliceNil ho hsl.2 h
      · rename_i hnum _
        exact sound_binE ho ⟨⟨by simpa using hnum, h.1⟩, h.2⟩
  · exact sound_un ho h
  · exact sound_conv ho h
  · exact sound_nilCheck ho h
  · exact sound_extract ho h
  · exact sound_makeInterface ho h
  · exact sound_build ho h
  · obtain ⟨sl, hs, hl, es, he, h⟩ := h
    split at h
    · exact sound_buildSlice_own ho ⟨sl, hs, hl, es, he, h⟩
    · cases hx : hn (o.dst.getD 0 + 1000000) with
      | true => rw [hx] at h; exact sound_buildSlice_fx ho ⟨sl, hs, hl, es, he, h⟩
      | false => rw [hx] at h; exact sound_buildSlice_fz ho ⟨sl, hs, hl, es, he, h⟩
  · exact sound_makeFunc ho h
  · exact sound_panic ho h
  · exact sound_typeAssert ho h
  · exact sound_makeMap ho h
  · split at h
    · exact sound_lookup ho h
    · exact sound_lookupK ho h
  · split at h
    · obtain ⟨mm, hm, h⟩ := h
      unfold mapUpd at h
      exact sound_mapUpdate (.inl ho) ⟨mm, hm, h⟩
    · obtain ⟨mm, hm, h⟩ := h
      unfold mapUpdK at h
      exact sound_mapUpdateK (.inl ho) ⟨mm, hm, h⟩
  · split at h
    · obtain ⟨mm, hm, h⟩ := h
      unfold mapUpd at h
      exact sound_mapUpdate (.inr ho) ⟨mm, hm, h⟩
    · obtain ⟨mm, hm, h⟩ := h
      unfold mapUpdK at h
      exact sound_mapUpdateK (.inr ho) ⟨mm, hm, h⟩
  · exact sound_mapEntry ho h
  · exact sound_entryStore ho h
  · rename_i c
    unfold callC at h
    split at h <;> rename_i hc
    · unfold callTV at h
      split at h
      · exact sound_call ho hc (callDV_callV h)
      · exact sound_call ho hc h
    · obtain ⟨callee, args, ts⟩ := c
      simp only at hc h
      subst hc
      unfold callB at h
      split at h <;> rename_i ha ht
      · have e1 : args = #[_] := Array.toList_inj.1 (by rw [ha])
        have e2 : ts = #[_] := Array.toList_inj.1 (by rw [ht])
        subst e1; subst e2
        exact sound_len ho h
      · have e1 : args = #[_, _] := Array.toList_inj.1 (by rw [ha])
        have e2 : ts = #[_, _] := Array.toList_inj.1 (by rw [ht])
        subst e1; subst e2
        obtain ⟨htt, sl, hs, h⟩ := h
        subst htt
        split at h
        · exact sound_append ho ⟨sl, hs, h⟩
        · unfold appFz at h
          split at h <;> rename_i e1 e2
          · exact sound_append_fz ho ⟨sl, hs, by rw [e1, e2]; exact h⟩
          · exact sound_append_fx ho ⟨sl, hs, by rw [e1, e2]; exact h⟩
          · exact h.elim
      · have e1 : args = #[_, _] := Array.toList_inj.1 (by rw [ht])
        subst e1
        exact sound_min ho h
      · have e1 : args = #[_, _] := Array.toList_inj.1 (by rw [ht])
        subst e1
        exact sound_max ho h
      · have e1 : args = #[_, _] := Array.toList_inj.1 (by rw [ha])
        have e2 : ts = #[_, _] := Array.toList_inj.1 (by rw [ht])
        subst e1; subst e2
        obtain ⟨⟨d, z⟩, hm, h⟩ := h
        unfold mapDel at h
        split at h
        · rename_i h' e'
          obtain ⟨es, hes, k, hk, es', hd, hK⟩ := h
          simp only [mapEs] at hes
          split at hes
          · rename_i es0 hk'
            cases hes
            exact sound_deleteG ho hm e' hk' hk hd hK
          · cases hes
        · exact h.elim
      · have e1 : args = #[_, _] := Array.toList_inj.1 (by rw [ha])
        have e2 : ts = #[_, _] := Array.toList_inj.1 (by rw [ht])
        subst e1; subst e2
        exact sound_copy ho h
      · exact h.elim
    · exact h.elim
  · exact sound_range ho h
  · exact sound_next ho h
  · exact sound_entry ho h
  · exact h.elim
def pureOp (hn : Nat → Bool) (o : Oper) : Bool :=
  match o.op with
  | .binOp _ _ _ y _ => !nilSlC y
  | .move _ | .assign _ | .pick .. | .load .. | .fieldAddr .. | .field .. | .indexAddr .. | .index .. | .slice _ _ _ _ none | .unOp .. | .convert .. | .nilCheck _ | .extract .. | .makeInterface .. | .build .. | .makeFunc .. | .typeAssert .. | .lookup .. => true
  | .buildSlice .. => !hn (o.dst.getD 0)
  | .call c => match c.callee with
    | .value _ => !hn (o.dst.getD 0)
    | .builtin .len => true
    | .builtin .append => !hn (o.dst.getD 0)
    | _ => false
  | _ => false
def Det (H : List Blk) (W : (AV → List Blk → Prop) → (AV → List Blk → Prop) → Prop) : Prop := ∀ K pan, W K pan → ∃ r, W (fun r' H' => r' = r ∧ H' = H) (fun _ _ => False) ∧ K r H
theorem det_bindO {H : List Blk} {α : Type} {o : Option α} {W : α → (AV → List Blk → Prop) → (AV → List Blk → Prop) → Prop} (h : ∀ a, Det H (W a)) : Det H fun K pan => bindO o fun a => W a K pan := by
  intro K pan hw
  obtain ⟨a, ha, hw⟩ := hw
  obtain ⟨r, h1, h2⟩ := h a K pan hw
  exact ⟨r, ⟨a, ha, h1⟩, h2⟩
theorem det_andV {H : List Blk} {p : Prop} {W : (AV → List Blk → Prop) → (AV → List Blk → Prop) → Prop} (h : Det H W) : Det H fun K pan => andV p (W K pan) := by
  intro K pan hw
  obtain ⟨r, h1, h2⟩ := h K pan hw.2
  exact ⟨r, ⟨hw.1, h1⟩, h2⟩
theorem det_K {H : List Blk} (r : AV) : Det H fun K pan => K r H := fun K pan h => ⟨r, ⟨rfl, rfl⟩, h⟩
theorem det_ite {H : List Blk} {p : Prop} [Decidable p] {W W' : (AV → List Blk → Prop) → (AV → List Blk → Prop) → Prop} (h : p → Det H W) (h' : ¬p → Det H W') : Det H fun K pan => if p then W K pan else W' K pan := by
  intro K pan hw
  by_cases hp : p
  · simp only [if_pos hp] at hw ⊢; exact h hp K pan hw
  · simp only [if_neg hp] at hw ⊢; exact h' hp K pan hw
theorem det_convV {P : Program} {H : List Blk} {s t : TypeId} {k : Option IntKind} {x : AV} : Det H fun K pan => convV P s t k x fun r => K r H := by
  cases k with
  | none =>
    unfold convV
    by_cases hb : byS P s t = true
    · simp only [hb, if_true]; exact det_bindO fun _ => det_K _
    · simp only [hb, if_false]; exact det_andV (det_bindO fun _ => det_K _)
  | some k => exact det_andV (det_bindO fun _ => det_K _)
theorem vcOp_det {P : Program} {hn : Nat → Bool} {H : List Blk} {ρ : Operand → AV} {o : Oper} {K pan : AV → List Blk → Prop} (hp : pureOp hn o = true) (h : vcOp P hn true H ρ o.dst o.op K pan) :
    ∃ r, DetSem P o ρ H r ∧ K r H := by
  suffices hd : Det H (vcOp P hn true H ρ o.dst o.op) by
    obtain ⟨r, h1, h2⟩ := hd K pan h
    exact ⟨r, vcOp_sound h1, h2⟩
  obtain ⟨dst, op, ty, pos, aft, g⟩ := o
  unfold pureOp at hp
  simp only at hp ⊢
  split at hp
  case h_1 op t x y _ =>
    have hp' : nilSlC y = false := by simpa using hp
    exact det_ite (fun _ => det_bindO fun _ => det_K _) (fun _ => det_ite (fun h => absurd h (by simp [hp'])) (fun _ => det_andV (det_bindO fun _ => det_K _)))
  case h_2 => exact det_K _
  case h_3 => exact det_K _
  case h_4 c a b =>
    intro K pan h
    have h' : condV (ρ c) (K (ρ a) H) (K (ρ b) H) := h
    unfold condV at h'
    split at h'
    · rename_i e
      refine ⟨_, ?_, h'⟩
      show condV (ρ c) _ _
      rw [e]; exact ⟨rfl, rfl⟩
    · rename_i e
      refine ⟨_, ?_, h'⟩
      show condV (ρ c) _ _
      rw [e]; exact ⟨rfl, rfl⟩
    · exact h'.elim
  case h_5 => exact det_bindO fun _ => det_bindO fun _ => det_bindO fun _ => det_bindO fun _ => det_K _
  case h_6 => exact det_bindO fun _ => det_bindO fun _ => det_andV (det_bindO fun _ => det_K _)
  case h_7 => exact det_bindO fun _ => det_bindO fun _ => det_bindO fun _ => det_K _
  case h_8 t x i =>
    intro K pan h
    have dA : ∀ ar : Nat × TypeId, Det H fun K pan => bindO (szOf P ar.2) fun sz => bindO (intA (ρ i)) fun n => idxA H ar.1 sz (ρ x) n fun r => K r H := fun ar => by
      refine det_bindO fun sz => det_bindO fun n => ?_
      intro K pan h
      unfold idxA at h
      split at h <;> rename_i e
      · exact ⟨_, (by rw [e]; exact ⟨h.1, rfl, rfl⟩), h.2⟩
      · exact ⟨_, (by rw [e]; exact ⟨h.1, rfl, rfl⟩), h.2⟩
      · obtain ⟨cs, hcs, hb, hK⟩ := h
        exact ⟨_, (by rw [e]; exact ⟨cs, hcs, hb, rfl, rfl⟩), hK⟩
      · exact h.elim
    have dS : Det H fun K pan => bindO (elOf P t) fun e => bindO (szOf P e) fun sz => bindO (intA (ρ i)) fun n => idxV H sz (ρ x) n fun r => K r H := by
      refine det_bindO fun e => det_bindO fun sz => det_bindO fun n => ?_
      intro K pan h
      unfold idxV at h
      split at h <;> rename_i e
      · obtain ⟨r, h1, h2⟩ := (det_andV (det_bindO fun _ => det_K _)) K pan h
        exact ⟨r, (by rw [e]; exact h1), h2⟩
      · split at h <;> rename_i e2
        · exact ⟨_, (by rw [e]; unfold idxV; simp only [e2]; exact ⟨h.1, by simp⟩), h.2⟩
        · exact h.elim
      · exact ⟨_, (by rw [e]; exact ⟨h.1, rfl, rfl⟩), h.2⟩
      · exact h.elim
    cases ha : arOf P t with
    | some ar =>
      obtain ⟨r, h1, h2⟩ := dA ar K pan (by simpa only [vcOp, ha] using h)
      exact ⟨r, by simpa only [vcOp, ha] using h1, h2⟩
    | none =>
      obtain ⟨r, h1, h2⟩ := dS K pan (by simpa only [vcOp, ha] using h)
      exact ⟨r, by simpa only [vcOp, ha] using h1, h2⟩
  case h_9 t x i =>
    intro K pan h
    have dA : ∀ ar : Nat × TypeId, Det H fun K pan => bindO (szOf P ar.2) fun sz => bindO (aggOf P ar.2) fun agg => bindO (intA (ρ i)) fun n => bindO (idxVal (ρ x) agg ar.1 sz n) fun r => K r H := fun ar => det_bindO fun _ => det_bindO fun _ => det_bindO fun _ => det_bindO fun _ => det_K _
    have dS : Det H fun K pan => andV (lkOf P t = 2) (bindO (strA (ρ x)) fun s => bindO (intA (ρ i)) fun n => andV (0 ≤ n) (bindO (s.data.toList[n.toNat]?) fun b => K (.v (.int .u8 b.toNat)) H)) := det_andV (det_bindO fun _ => det_bindO fun _ => det_andV (det_bindO fun _ => det_K _))
    cases ha : arOf P t with
    | some ar =>
      obtain ⟨r, h1, h2⟩ := dA ar K pan (by simpa only [vcOp, ha] using h)
      exact ⟨r, by simpa only [vcOp, ha] using h1, h2⟩
    | none =>
      obtain ⟨r, h1, h2⟩ := dS K pan (by simpa only [vcOp, ha] using h)
      exact ⟨r, by simpa only [vcOp, ha] using h1, h2⟩
  case h_10 t x lo hi =>
    intro K pan h
    have dA : ∀ ar : Nat × TypeId, Det H fun K pan => bindO (szOf P ar.2) fun sz => bindO (optI (lo.map ρ)) fun l => bindO (optI (hi.map ρ)) fun hh => sliceA ar.1 sz (ρ x) l hh fun r => K r H := fun ar => by
      refine det_bindO fun sz => det_bindO fun l => det_bindO fun hh => ?_
      intro K pan h
      unfold sliceA at h
      split at h <;> rename_i e1
      · exact ⟨_, (by rw [e1]; exact ⟨h.1, rfl, rfl⟩), h.2⟩
      · exact h.elim
    have dS : Det H fun K pan => bindO (elOf P t) fun e => bindO (szOf P e) fun sz => bindO (optI (lo.map ρ)) fun l => bindO (optI (hi.map ρ)) fun hh => sliceV H sz (ρ x) l hh fun r => K r H := by
      refine det_bindO fun e => det_bindO fun sz => det_bindO fun l => det_bindO fun hh => ?_
      intro K pan h
      unfold sliceV at h
      split at h <;> rename_i e1
      · exact ⟨_, (by rw [e1]; exact ⟨h.1, rfl, rfl⟩), h.2⟩
      · split at h <;> rename_i e2
        · exact ⟨_, (by rw [e1]; unfold sliceV; simp only [e2]; exact ⟨h.1, by simp⟩), h.2⟩
        · exact h.elim
      · exact ⟨_, (by rw [e1]; exact ⟨h.1, rfl, rfl⟩), h.2⟩
      · exact h.elim
    cases ha : arpOf P t with
    | some ar =>
      obtain ⟨r, h1, h2⟩ := dA ar K pan (by simpa only [vcOp, ha] using h)
      exact ⟨r, by simpa only [vcOp, ha] using h1, h2⟩
    | none =>
      obtain ⟨r, h1, h2⟩ := dS K pan (by simpa only [vcOp, ha] using h)
      exact ⟨r, by simpa only [vcOp, ha] using h1, h2⟩
  case h_11 => exact det_bindO fun _ => det_K _
  case h_12 s t x => exact det_convV
  case h_13 => exact det_bindO fun _ => det_K _
  case h_14 => exact det_bindO fun _ => det_K _
  case h_15 => exact det_andV (det_K _)
  case h_16 => exact det_bindO fun _ => det_bindO fun _ => det_K _
  case h_17 => exact det_K _
  case h_18 => exact det_andV (det_bindO fun _ => det_bindO fun _ => det_K _)
  case h_19 t x i ok =>
    intro K pan h
    by_cases hm : (mapOf P t).isSome = true
    · simp only [vcOp, if_pos hm] at h
      obtain ⟨r, a, b⟩ := (det_bindO fun _ => det_bindO fun _ => det_bindO fun _ => det_bindO fun _ => det_K _) K pan h
      exact ⟨r, by simp only [vcOp, if_pos hm]; simpa using a, b⟩
    · simp only [vcOp, if_neg hm] at h
      obtain ⟨r, a, b⟩ := (det_bindO fun _ => det_bindO fun _ => det_bindO fun _ => det_andV (det_bindO fun _ => det_K _)) K pan h
      exact ⟨r, by simp only [vcOp, if_neg hm]; simpa using a, b⟩
  case h_20 =>
    refine det_bindO fun sl => det_andV (det_bindO fun es => ?_)
    simp only [Bool.not_eq_true'] at hp
    simp only [hp, Bool.false_eq_true, if_false]
    exact det_andV (det_K _)
  case h_21 c =>
    obtain ⟨callee, args, ts⟩ := c
    simp only at hp
    split at hp
    · intro K pan h
      simp only [vcOp, callC, callTV, hp, Bool.and_self, if_true] at h ⊢
      unfold callDV at h ⊢
      split at h
      · obtain ⟨h1, r, h2, h3⟩ := h
        exact ⟨r, ⟨h1, r, h2, rfl, rfl⟩, h3⟩
      · exact h.elim
    · intro K pan h
      simp only [vcOp, callC] at h ⊢
      unfold callB at h ⊢
      split at h
      · exact (det_bindO fun _ => det_K _) K pan h
      · rename_i hb _ _; cases hb
      · rename_i hb _; cases hb
      · rename_i hb _; cases hb
      · rename_i hb _ _; cases hb
      · rename_i hb _ _; cases hb
      · exact h.elim
    · intro K pan h
      simp only [vcOp, callC] at h ⊢
      unfold callB at h ⊢
      simp only [Bool.not_eq_true'] at hp
      split at h
      · rename_i hb _ _; cases hb
      · simp only [hp, Bool.false_eq_true, if_false] at h ⊢
        rename_i s x t t' _ _ _
        have hd : Det H fun K pan => bindO (slbOf P t) fun sl => appFz (ρ s) (ρ x) sl fun r => K r H := by
          refine det_bindO fun sl => ?_
          intro K pan h
          unfold appFz at h
          split at h
          · rename_i e1 e2; exact ⟨_, (by rw [e1, e2]; exact ⟨h.1, h.2.1, rfl, rfl⟩), h.2.2⟩
          · rename_i e1 e2; exact ⟨_, (by rw [e1, e2]; exact ⟨h.1, h.2.1, rfl, rfl⟩), h.2.2⟩
          · exact h.elim
        obtain ⟨r, h1, h2⟩ := hd K pan h.2
        exact ⟨r, ⟨h.1, by simpa using h1⟩, h2⟩
      · rename_i hb _; cases hb
      · rename_i hb _; cases hb
      · rename_i hb _ _; cases hb
      · rename_i hb _ _; cases hb
      · exact h.elim
    · cases hp
  case h_22 => cases hp
def hfreeOp (o : Oper) : Bool :=
  match o.op with
  | .binOp _ _ _ y _ => !nilSlC y
  | .move _ | .assign _ | .pick .. | .field .. | .unOp .. | .convert .. | .extract .. | .makeInterface .. | .build .. | .makeFunc .. | .typeAssert .. => true
  | _ => false
def HDet (W : List Blk → (AV → List Blk → Prop) → (AV → List Blk → Prop) → Prop) : Prop := ∀ H K pan, W H K pan → ∃ r, (∀ H1, W H1 (fun r' H' => r' = r ∧ H' = H1) (fun _ _ => False)) ∧ K r H
theorem hdet_bindO {α : Type} {o : Option α} {W : α → List Blk → (AV → List Blk → Prop) → (AV → List Blk → Prop) → Prop} (h : ∀ a, HDet (W a)) : HDet fun H K pan => bindO o fun a => W a H K pan := by
  intro H K pan hw
  obtain ⟨a, ha, hw⟩ := hw
  obtain ⟨r, h1, h2⟩ := h a H K pan hw
  exact ⟨r, fun H1 => ⟨a, ha, h1 H1⟩, h2⟩
theorem hdet_andV {p : Prop} {W : List Blk → (AV → List Blk → Prop) → (AV → List Blk → Prop) → Prop} (h : HDet W) : HDet fun H K pan => andV p (W H K pan) := by
  intro H K pan hw
  obtain ⟨r, h1, h2⟩ := h H K pan hw.2
  exact ⟨r, fun H1 => ⟨hw.1, h1 H1⟩, h2⟩
theorem hdet_K (r : AV) : HDet fun H K pan => K r H := fun H K pan h => ⟨r, fun _ => ⟨rfl, rfl⟩, h⟩
theorem hdet_ite {p : Prop} [Decidable p] {W W' : List Blk → (AV → List Blk → Prop) → (AV → List Blk → Prop) → Prop} (h : p → HDet W) (h' : ¬p → HDet W') : HDet fun H K pan => if p then W H K pan else W' H K pan := by
  intro H K pan hw
  by_cases hp : p
  · simp only [if_pos hp] at hw ⊢; exact h hp H K pan hw
  · simp only [if_neg hp] at hw ⊢; exact h' hp H K pan hw
theorem hdet_convV {P : Program} {s t : TypeId} {k : Option IntKind} {x : AV} : HDet fun H K pan => convV P s t k x fun r => K r H := by
  cases k with
  | none =>
    unfold convV
    by_cases hb : byS P s t = true
    · simp only [hb, if_true]; exact hdet_bindO fun _ => hdet_K _
    · simp only [hb, if_false]; exact hdet_andV (hdet_bindO fun _ => hdet_K _)
  | some k => exact hdet_andV (hdet_bindO fun _ => hdet_K _)
theorem vcOp_hfree {P : Program} {hn : Nat → Bool} {H : List Blk} {ρ : Operand → AV} {o : Oper} {K pan : AV → List Blk → Prop} (hp : hfreeOp o = true) (h : vcOp P hn true H ρ o.dst o.op K pan) :
    ∃ r, (∀ H', DetSem P o ρ H' r) ∧ K r H := by
  suffices hd : HDet (fun H => vcOp P hn true H ρ o.dst o.op) by
    obtain ⟨r, h1, h2⟩ := hd H K pan h
    exact ⟨r, fun H' => vcOp_sound (h1 H'), h2⟩
  obtain ⟨dst, op, ty, pos, aft, g⟩ := o
  unfold hfreeOp at hp
  simp only at hp ⊢
  split at hp
  case h_1 op t x y _ =>
    have hp' : nilSlC y = false := by simpa using hp
    exact hdet_ite (fun _ => hdet_bindO fun _ => hdet_K _) (fun _ => hdet_ite (fun h => absurd h (by simp [hp'])) (fun _ => hdet_andV (hdet_bindO fun _ => hdet_K _)))
  case h_2 => exact hdet_K _
  case h_3 => exact hdet_K _
  case h_4 c a b =>
    intro H K pan h
    have h' : condV (ρ c) (K (ρ a) H) (K (ρ b) H) := h
    unfold condV at h'
    split at h'
    · rename_i e
      refine ⟨_, fun H1 => ?_, h'⟩
      show condV (ρ c) _ _
      rw [e]; exact ⟨rfl, rfl⟩
    · rename_i e
      refine ⟨_, fun H1 => ?_, h'⟩
      show condV (ρ c) _ _
      rw [e]; exact ⟨rfl, rfl⟩
    · exact h'.elim
  case h_5 => exact hdet_bindO fun _ => hdet_bindO fun _ => hdet_bindO fun _ => hdet_K _
  case h_6 => exact hdet_bindO fun _ => hdet_K _
  case h_7 s t x => exact hdet_convV
  case h_8 => exact hdet_bindO fun _ => hdet_K _
  case h_9 => exact hdet_andV (hdet_K _)
  case h_10 => exact hdet_bindO fun _ => hdet_bindO fun _ => hdet_K _
  case h_11 => exact hdet_K _
  case h_12 => exact hdet_andV (hdet_bindO fun _ => hdet_bindO fun _ => hdet_K _)
  case h_13 => cases hp
def deferV (P : Program) (fv : AV) (args : List AV) (k : ADef → Prop) : Prop :=
  match fv with
  | .fn (.func g) first cap => k ⟨g, first ++ args ++ cap, none⟩
  | _ => False
def panFr (dr : Bool) (ops : Array Oper) (f : Fr) : Fr := match dr with | true => maskFr ops f | false => f
def vcL (P : Program) (hn : Nat → Bool) (dr : Bool) (ops : Array Oper) : List Oper → AQ → Fr → List Blk → List ADef → Prop
  | [], Q, f, H, ds => Q .normal f H ds
  | ⟨dst, op, _, _, _, g⟩ :: rest, Q, f, H, ds =>
    match op, g with
    | .defer c, none => match c.callee with | .value fo => deferV P (ev f fo) (c.args.toList.map (ev f)) fun d => vcL P hn dr ops rest Q (updO f dst (.tup [])) H (d :: ds) | _ => False
    | op, none => vcOp P hn dr H (ev f) dst op (fun r H' => vcL P hn dr ops rest Q (updO f dst r) H' ds) (fun x H' => Q (.pan x) (panFr dr ops f) H' ds)
    | op, some (j, want) => guardV (f (gdst ops j)) want (vcOp P hn dr H (ev f) dst op (fun r H' => vcL P hn dr ops rest Q (updO f dst r) H' ds) (fun x H' => Q (.pan x) (panFr dr ops f) H' ds)) (vcL P hn dr ops rest Q (updO f dst (.tup [])) H ds)
section
variable {P : Program} {n : Nat} {hn : Nat → Bool} {dr : Bool} {od : Nat → Option OPlan}
theorem awl_defer {ops : Array Oper} {rest : List Oper} {o : Oper} {Q : AQ} {f : Fr} {H : List Blk} {ds : List ADef} {c : Call} {fo : Operand} (ho : o.op = .defer c) (hc : c.callee = .value fo) (hg : o.guard = none) (hs : Oper.small n o = true)
    (h : deferV P (ev f fo) (c.args.toList.map (ev f)) fun d => AWL P n ops rest Q (updO f o.dst (.tup [])) H (d :: ds)) : AWL P n ops (o :: rest) Q f H ds := by
  intro ro hro B w0 cx0 cx a h1 h2 h3 h4 h5
  cases ro with
  | some l => have := hro rfl; simp [noDefer, ho] at this
  | none =>
  refine wpListIn_plain hg fun K hK => ?_
  simp only [Oper.small, Bool.and_eq_true, Array.all_eq_true'] at hs
  have hd : ∀ t, o.dst = some t → t < n := fun t ht => by have := hs.2; rw [ht] at this; simpa using this
  have hops : ∀ x ∈ o.op.operands, Rep cx false (ev f x) (a.eval x) := fun x hx => ev_rep h4 (hs.1 x hx)
  have hf := hops fo (by simp [Op.operands, Call.operands, ho, hc])
  have ha : RepL cx false (c.args.toList.map (ev f)) (c.args.toList.map a.eval) := RepL.of_map _ fun x hx => hops x (by simp [Op.operands, Call.operands, ho]; right; simpa using hx)
  unfold deferV at h
  split at h
  · rename_i g first cap e
    rw [e] at hf
    generalize hy : a.eval fo = y at hf
    cases hf with
    | fn _ _ _ vf vc hnf hrf hnc hrc =>
      have hrun : (execOp a.eval o).run P cx.w = .ok (.defer { target := .fn (.func g) vc.toArray, args := vf.toArray ++ c.args.map a.eval }) cx.w := by
        simp [execOp, ho, resolve, hc, hy, Deferred.ofValue]
      refine ⟨fun _ _ => trivial, ?_⟩
      rw [show Oper.semAt (Fo none).round a.eval o = execOp a.eval o from rfl, hrun, Oper.uponIn_defer]
      apply hK
      refine h none (fun hs => by cases hs) B w0 cx0 cx _ h1 h2 h3 ?_ ?_
      · exact frel_put (a := { a with defers := _ :: a.defers }) h4 hd (tup_nil_undef _ _)
      · have hdr : DRel cx (⟨g, first ++ c.args.toList.map (ev f) ++ cap, none⟩ :: ds) ({ target := .fn (.func g) vc.toArray, args := vf.toArray ++ c.args.map a.eval } :: a.defers) := by
          refine ⟨⟨vc.toArray, rfl, ?_⟩, h5⟩
          have := ((RepL.mk hnf hrf).append ha).append (RepL.mk hnc hrc)
          simpa using this
        cases ho' : o.dst <;> exact hdr
  · exact h.elim
theorem vcL_sound {ops : Array Oper} {Q : AQ} : ∀ {rest : List Oper} {f : Fr} {H : List Blk} {ds : List ADef}, rest.all (smallO n ops) = true → vcL P hn false ops rest Q f H ds → AWL P n ops rest Q f H ds
  | [], f, H, ds, _, h => awl_nil h
  | o :: rest, f, H, ds, hs, h => by
    simp only [List.all_cons, Bool.and_eq_true, smallO] at hs
    obtain ⟨⟨hs1, hs2⟩, hsr⟩ := hs
    have hmono : ∀ {K K' : AV → List Blk → Prop} {pan : AV → List Blk → Prop}, (∀ r H', K r H' → K' r H') → OpSem P o (ev f) H K pan → OpSem P o (ev f) H K' pan := by
      intro K K' pan hk hop B w0 cx ρc h1 h2 h3
      have := hop B w0 cx ρc h1 h2 h3
      split at this
      · obtain ⟨cx', r, a1, a2, a3, a4, a5⟩ := this; exact ⟨cx', r, a1, a2, a3, a4, hk _ _ a5⟩
      · obtain ⟨cx', a1, a2, a3, a4⟩ := this; exact ⟨cx', a1, a2, a3, hk _ _ a4⟩
      · obtain ⟨cx', avs, a1, a2, a3, a4, a5⟩ := this
        exact ⟨cx', avs, a1, a2, a3, a4, a5.mono fun e H' he => by cases e <;> first | exact hk _ _ he | exact he⟩
      · obtain ⟨cx', a1, a2, a3, a4⟩ := this
        exact ⟨cx', a1, a2, a3, a4.mono fun e w' he => he.mono fun e H' he => by cases e <;> first | exact hk _ _ he | exact he⟩
      · exact this
      · exact this
    obtain ⟨dst, op, ty, pos, aft, g⟩ := o
    unfold vcL at h
    split at h
    · split at h
      · rename_i hc
        refine awl_defer (o := ⟨dst, _, ty, pos, aft, none⟩) rfl hc rfl hs1 ?_
        unfold deferV at h ⊢
        split at h
        · exact vcL_sound hsr h
        · exact h.elim
      · exact h.elim
    · exact awl_step rfl hs1 (hmono (fun r H' hk => vcL_sound hsr hk) (vcOp_sound (o := ⟨dst, _, ty, pos, aft, none⟩) h))
    · rename_i j want
      simp only at hs2
      cases hj : (ops[j]?).bind (·.dst) with
      | none => rw [hj] at hs2; simp at hs2
      | some d =>
        rw [hj] at hs2
        have hgd : gdst ops j = d := by simp [gdst, hj]
        rw [hgd] at h
        refine awl_guard (o := ⟨dst, _, ty, pos, aft, some (j, want)⟩) rfl hj (by simpa using hs2) hs1 ?_
        unfold guardV at h ⊢
        split at h
        · exact ⟨fun hb => hmono (fun r H' hk => vcL_sound hsr hk) (vcOp_sound (o := ⟨dst, _, ty, pos, aft, some (j, want)⟩) (h.1 hb)), fun hb => vcL_sound hsr (h.2 hb)⟩
        · exact vcL_sound hsr h
        · exact h.elim
def planOf (ops : Array Oper) (od : Option OPlan) : OPlan := od.getD ((List.range ops.size).map fun i => (i, []))
def opsAt (ops : Array Oper) (l : List Nat) : List Oper := l.filterMap fun i => ops[i]?
def smallC (hn : Nat → Bool) (od : Nat → Option OPlan) (n : Nat) : Code → Bool
  | .region _ ops false => ops.toList.all (smallO n ops)
  | .region id ops true => ops.toList.all (smallO n ops) && planB (puOf (pureOp hn) ops) hfreeOp ops (planOf ops (od id)) && ops.all noDefer
  | .seq a b => smallC hn od n a && smallC hn od n b
  | .cond c a b => opOk n c && smallC hn od n a && smallC hn od n b
  | .block _ b => smallC hn od n b
  | .loop b => smallC hn od n b
  | .scope b => smallC hn od n b
  | .rangeFunc .. => true
  | _ => true
def lateQ (dst : Option Nat) (f : Fr) (H : List Blk) : AQ := fun x f' H' _ => match x with | .normal => H' = H ∧ (match dst with | some d => f' d = f d | none => True) | _ => False
def lateV (P : Program) (hn : Nat → Bool) (ops : Array Oper) (f : Fr) (H : List Blk) : List Oper → Prop
  | [] => True
  | o :: l => vcL P hn true ops [o] (lateQ o.dst f H) f H [] ∧ lateV P hn ops f H l
def vcX (P : Program) (hn : Nat → Bool) (ops : Array Oper) (Q : AQ) (ds : List ADef) : OPlan → Fr → List Blk → Prop
  | [], f, H => Q .normal f H ds
  | (i, late) :: rest, f, H => vcL P hn true ops (opsAt ops [i]) (thenQ (fun f' H' _ => lateV P hn ops f' H' (opsAt ops late) ∧ vcX P hn ops Q ds rest f' H') Q) f H ds
def vcC (P : Program) (hn : Nat → Bool) (od : Nat → Option OPlan) (n : Nat) : Code → AQ → Fr → List Blk → List ADef → Prop
  | .skip, Q, f, H, ds => Q .normal f H ds
  | .region _ ops false, Q, f, H, ds => vcL P hn false ops ops.toList Q f H ds
  | .region id ops true, Q, f, H, ds => match od id with | none => vcL P hn true ops ops.toList Q f H ds | some p => vcX P hn ops Q ds p f H
  | .seq a b, Q, f, H, ds => vcC P hn od n a (thenQ (vcC P hn od n b Q) Q) f H ds
  | .cond c a b, Q, f, H, ds => condV (ev f c) (vcC P hn od n a Q f H ds) (vcC P hn od n b Q f H ds)
  | .block id b, Q, f, H, ds => vcC P hn od n b (blockQ id Q) f H ds
  | .loop b, Q, f, H, ds => AWP P n (.loop b) Q f H ds
  | .scope b, Q, f, H, ds => AWP P n (.scope b) Q f H ds
  | .rangeFunc g ps x y, Q, f, H, ds => AWP P n (.rangeFunc g ps x y) Q f H ds
  | .exit id, Q, f, H, ds => Q (.exit id) f H ds
  | .goto l, Q, f, H, ds => Q (.goto l) f H ds
  | .label _, Q, f, H, ds => Q .normal f H ds
  | .ret, Q, f, H, ds => Q .ret f H ds
  | _, _, _, _, _ => False
theorem pureOf_pu {ops : Array Oper} {i : Nat} {o : Oper} (ho : ops[i]? = some o) (h : puOf (pureOp hn) ops i = true) : pureOp hn o = true := by
  simp only [puOf, ho, Bool.and_eq_true] at h; exact h.1
theorem one_det {ops : Array Oper} {o : Oper} {Q : AQ} {f : Fr} {H : List Blk} {ds : List ADef} (hnd : noDefer o = true) (hp : pureOp hn o = true) (h : vcL P hn true ops [o] Q f H ds) :
    ∃ r, StepD P ops o f H r ∧ (hfreeOp o = true → ∀ H', StepD P ops o f H' r) ∧ Q .normal (updO f o.dst r) H ds := by
  obtain ⟨dst, op, ty, pos, aft, g⟩ := o
  have both : ∀ {K pan : AV → List Blk → Prop}, vcOp P hn true H (ev f) dst op K pan → ∃ r, DetSem P ⟨dst, op, ty, pos, aft, g⟩ (ev f) H r ∧ (hfreeOp ⟨dst, op, ty, pos, aft, g⟩ = true → ∀ H', DetSem P ⟨dst, op, ty, pos, aft, g⟩ (ev f) H' r) ∧ K r H := by
    intro K pan h
    cases hh : hfreeOp ⟨dst, op, ty, pos, aft, g⟩ with
    | true =>
      obtain ⟨r, h1, h2⟩ := vcOp_hfree (o := ⟨dst, op, ty, pos, aft, g⟩) hh h
      exact ⟨r, h1 H, fun _ => h1, h2⟩
    | false =>
      obtain ⟨r, h1, h2⟩ := vcOp_det (o := ⟨dst, op, ty, pos, aft, g⟩) hp h
      exact ⟨r, h1, fun h => absurd h (by simp), h2⟩
  unfold vcL at h
  unfold StepD
  simp only at hnd ⊢
  split at h
  · simp [noDefer] at hnd
  · exact both h
  · rename_i j want
    unfold guardV at h ⊢
    simp only
    split at h
    · rename_i b hb
      by_cases hw : b = want
      · obtain ⟨r, h1, h2, h3⟩ := both (h.1 hw)
        exact ⟨r, ⟨fun _ => h1, fun hne => absurd hw hne⟩, fun hf H' => ⟨fun _ => h2 hf H', fun hne => absurd hw hne⟩, h3⟩
      · exact ⟨_, ⟨fun he => absurd he hw, fun _ => rfl⟩, fun _ _ => ⟨fun he => absurd he hw, fun _ => rfl⟩, h.2 hw⟩
    · exact ⟨_, rfl, fun _ _ => rfl, h⟩
    · exact h.elim
theorem one_bar {ops : Array Oper} {o : Oper} {Q Q' : AQ} {f : Fr} {H : List Blk} {ds : List ADef} (hQ : ∀ x f H ds, Q' (.pan x) f H ds → Q (.pan x) f H ds) (hnd : noDefer o = true) (h : vcL P hn true ops [o] Q' f H ds) :
    StepB P ops o f H ds Q (fun f' H' => Q' .normal f' H' ds) := by
  obtain ⟨dst, op, ty, pos, aft, g⟩ := o
  unfold vcL at h
  unfold StepB
  simp only at hnd ⊢
  split at h
  · simp [noDefer] at hnd
  · exact OpSem.mono (fun _ _ h => h) (fun _ _ h => hQ _ _ _ _ h) (vcOp_sound (o := ⟨dst, _, ty, pos, aft, none⟩) h)
  · rename_i j want
    unfold guardV at h ⊢
    simp only
    split at h
    · exact ⟨fun hb => OpSem.mono (fun _ _ h => h) (fun _ _ h => hQ _ _ _ _ h) (vcOp_sound (o := ⟨dst, _, ty, pos, aft, some (j, want)⟩) (h.1 hb)), h.2⟩
    · exact h
    · exact h.elim
theorem lateV_mem {ops : Array Oper} {f : Fr} {H : List Blk} : ∀ {l : List Oper}, lateV P hn ops f H l → ∀ o ∈ l, vcL P hn true ops [o] (lateQ o.dst f H) f H []
  | [], _, o, ho => by cases ho
  | o' :: l, h, o, ho => by
    rcases List.mem_cons.1 ho with rfl | ho
    · exact h.1
    · exact lateV_mem h.2 o ho
theorem vx_of_vcX {ops : Array Oper} {Q : AQ} {ds : List ADef} (hnd : ops.all noDefer = true) {tab : List (Nat × Oper × Nat)} : ∀ (p : OPlan) (done rem : List Nat) (f : Fr) (H : List Blk),
    planX (puOf (pureOp hn) ops) hfreeOp ops tab done rem p = true → (∀ x ∈ p, ∀ j ∈ x.2, ∀ o, ops[j]? = some o → puOf (pureOp hn) ops j = true) → vcX P hn ops Q ds p f H → VX P (puOf (pureOp hn) ops) hfreeOp ops Q ds p f H
  | [], done, rem, f, H, hc, hl, h => h
  | (i, late) :: rest, done, rem, f, H, hc, hl, h => by
    simp only [planX, Bool.and_eq_true] at hc
    obtain ⟨⟨hrd, hop⟩, hrest⟩ := hc
    simp only [vcX] at h
    simp only [VX]
    cases ho : ops[i]? with
    | none => rw [ho] at hop; cases hop
    | some o =>
      have hndo : noDefer o = true := Array.all_eq_true_iff_forall_mem.1 hnd _ (Array.mem_of_getElem? ho)
      have hone : opsAt ops [i] = [o] := by simp [opsAt, ho]
      rw [hone] at h
      have ih : ∀ {f H}, vcX P hn ops Q ds rest f H → VX P (puOf (pureOp hn) ops) hfreeOp ops Q ds rest f H := fun h => vx_of_vcX hnd rest _ _ _ _ hrest (fun x hx => hl x (by simp [hx])) h
      simp only
      split
      · rename_i hp
        obtain ⟨r, h1, h2, h3⟩ := one_det hndo (pureOf_pu ho hp) h
        exact ⟨r, h1, h2, ih h3.2⟩
      · refine stepB_mono (fun f' H' hk => ⟨fun j hj oj hoj => ?_, ih hk.2⟩) (one_bar (Q := Q) (Q' := thenQ (fun f' H' _ => lateV P hn ops f' H' (opsAt ops late) ∧ vcX P hn ops Q ds rest f' H') Q) (fun _ _ _ _ h => h) hndo h)
        have hpj := hl (i, late) (by simp) j hj oj hoj
        have hndj : noDefer oj = true := Array.all_eq_true_iff_forall_mem.1 hnd _ (Array.mem_of_getElem? hoj)
        have hv := lateV_mem hk.1 oj (by simp only [opsAt, List.mem_filterMap]; exact ⟨j, hj, hoj⟩)
        obtain ⟨r, h1, _, h3⟩ := one_det hndj (pureOf_pu hoj hpj) hv
        refine ⟨r, h1, fun d hd => ?_⟩
        simp only [lateQ, hd] at h3
        have := h3.2
        simpa [updO, upd] using this.symm
theorem opsAt_range (ops : Array Oper) : opsAt ops (List.range ops.size) = ops.toList := by
  apply List.ext_getElem?
  intro i
  have : opsAt ops (List.range ops.size) = (List.range ops.size).pmap (fun i hi => ops[i]'hi) (by simp) := by
    unfold opsAt
    have key : ∀ (l : List Nat) (h : ∀ i ∈ l, i < ops.size), l.filterMap (fun i => ops[i]?) = l.pmap (fun i hi => ops[i]'hi) h := by
      intro l
      induction l with
      | nil => intro h; rfl
      | cons a l ih => intro h; simp [List.filterMap_cons, ih (fun i hi => h i (by simp [hi])), h a (by simp)]
    exact key _ _
  rw [this]
  by_cases hi : i < ops.size
  · simp [hi]
  · simp [hi]
theorem vcL_cons {ops : Array Oper} {Q : AQ} {ds : List ADef} {o : Oper} {l : List Oper} {f : Fr} {H : List Blk} (hnd : noDefer o = true) (h : vcL P hn dr ops (o :: l) Q f H ds) : vcL P hn dr ops [o] (thenQ (fun f' H' _ => vcL P hn dr ops l Q f' H' ds) Q) f H ds := by
  obtain ⟨dst, op, ty, pos, aft, g⟩ := o
  unfold vcL at h ⊢
  split at h
  · simp [noDefer] at hnd
  · exact h
  · exact h
theorem vx_of_vcL {ops : Array Oper} {Q : AQ} {ds : List ADef} (hnd : ops.all noDefer = true) : ∀ (l : List Nat) (f : Fr) (H : List Blk), (∀ i ∈ l, i < ops.size) → vcL P hn true ops (opsAt ops l) Q f H ds → VX P (puOf (pureOp hn) ops) hfreeOp ops Q ds (l.map fun i => (i, [])) f H
  | [], f, H, hl, h => h
  | i :: l, f, H, hl, h => by
    have ho : ops[i]? = some (ops[i]'(hl i (by simp))) := Array.getElem?_eq_getElem _
    generalize ops[i]'(hl i (by simp)) = o at ho
    have hndo : noDefer o = true := Array.all_eq_true_iff_forall_mem.1 hnd _ (Array.mem_of_getElem? ho)
    have h1 : opsAt ops (i :: l) = o :: opsAt ops l := by simp [opsAt, ho]
    rw [h1] at h
    simp only [List.map_cons, VX, ho]
    have h3 := vcL_cons hndo h
    split
    · rename_i hp
      obtain ⟨r, q1, q2, q3⟩ := one_det hndo (pureOf_pu ho hp) h3
      exact ⟨r, q1, q2, vx_of_vcL hnd l _ _ (fun k hk => hl k (by simp [hk])) q3⟩
    · exact stepB_mono (fun f' H' hk => ⟨fun j hj => (by cases hj), vx_of_vcL hnd l _ _ (fun k hk => hl k (by simp [hk])) hk⟩) (one_bar (Q := Q) (Q' := thenQ (fun f' H' _ => vcL P hn true ops (opsAt ops l) Q f' H' ds) Q) (fun _ _ _ _ h => h) hndo h3)
theorem vcC_sound : ∀ {c : Code} {Q : AQ} {f : Fr} {H : List Blk} {ds : List ADef}, P.follows .mixedOrders = true → smallC hn od n c = true → vcC P hn od n c Q f H ds → AWP P n c Q f H ds
  | .skip, Q, f, H, ds, hm, _, h => awp_skip h
  | .region id ops false, Q, f, H, ds, hm, hs, h => by
    have := awp_region (id := id) (l := ops.toList) (vcL_sound (ops := ops.toList.toArray) (by simpa [smallC] using hs) (by simpa using (show vcL P hn false ops ops.toList Q f H ds from h)))
    simpa using this
  | .region id ops true, Q, f, H, ds, hm, hs, h => by
    simp only [smallC, Bool.and_eq_true, List.all_eq_true] at hs
    obtain ⟨⟨hs1, hs2⟩, hs3⟩ := hs
    have hsm : ∀ (i : Nat) (o : Oper), ops[i]? = some o → smallO n ops o = true := fun i o ho => hs1 o (by simpa using Array.mem_of_getElem? ho)
    refine awp_region_draw hm hsm hs2 ?_
    have h' : (match od id with | none => vcL P hn true ops ops.toList Q f H ds | some p => vcX P hn ops Q ds p f H) := h
    clear h
    cases hp : od id with
    | none =>
      rw [hp] at h'
      simp only [planOf, Option.getD_none]
      rw [← opsAt_range] at h'
      exact vx_of_vcL hs3 _ f H (fun i hi => by simpa using hi) h'
    | some p =>
      rw [hp] at h' hs2
      simp only [planOf, Option.getD_some] at hs2 ⊢
      simp only [planB, Bool.and_eq_true] at hs2
      simp only [lateB, List.all_eq_true] at hs2
      refine vx_of_vcX hs3 p [] (List.range ops.size) f H hs2.1.1 (fun x hx j hj o ho => ?_) h'
      have := hs2.1.2 x hx j hj
      rw [ho] at this; exact this
  | .seq a b, Q, f, H, ds, hm, hs, h => by
    simp only [smallC, Bool.and_eq_true] at hs
    refine awp_seq ((vcC_sound hm hs.1 h).mono fun x f' H' ds' hx => ?_)
    cases x <;> first | exact vcC_sound hm hs.2 hx | exact hx
  | .cond c a b, Q, f, H, ds, hm, hs, h => by
    simp only [smallC, Bool.and_eq_true] at hs
    refine awp_cond hs.1.1 ?_
    have h' : condV (ev f c) (vcC P hn od n a Q f H ds) (vcC P hn od n b Q f H ds) := h
    unfold condV at h' ⊢
    split at h'
    · exact vcC_sound hm hs.1.2 h'
    · exact vcC_sound hm hs.2 h'
    · exact h'.elim
  | .block id b, Q, f, H, ds, hm, hs, h => awp_block (vcC_sound hm hs h)
  | .loop b, Q, f, H, ds, hm, _, h => h
  | .scope b, Q, f, H, ds, hm, _, h => h
  | .exit id, Q, f, H, ds, hm, _, h => awp_exit h
  | .goto l, Q, f, H, ds, hm, _, h => awp_goto h
  | .label l, Q, f, H, ds, hm, _, h => awp_label h
  | .ret, Q, f, H, ds, hm, _, h => awp_ret h
  | .rangeFunc .., Q, f, H, ds, hm, _, h => h
  | .refuse .., Q, f, H, ds, hm, _, h => h.elim
def frm : List AV → Nat → Fr
  | [], _ => fun _ => .tup []
  | a :: as, i => upd (frm as (i + 1)) i a
theorem frm_get : ∀ (args : List AV) (i t : Nat), frm args i t = if i ≤ t then args.getD (t - i) (.tup []) else .tup []
  | [], i, t => by simp [frm]
  | a :: as, i, t => by
    simp only [frm, upd, frm_get as (i + 1) t]
    by_cases h : t = i
    · subst h; simp
    · rw [if_neg h]
      by_cases h1 : i + 1 ≤ t
      · rw [if_pos h1, if_pos (by omega), show t - i = (t - (i + 1)) + 1 by omega]; simp
      · rw [if_neg h1, if_neg (by omega)]
def resOne (P : Program) (H : List Blk) (f : Fr) : ResultVar → Option AV
  | .tmp t => some (f t)
  | .cell a t => match cellsAt H (f a), szOf P t, aggOf P t with | some cs, some sz, some b => aload b sz cs | _, _, _ => none
def resAll (P : Program) (H : List Blk) (f : Fr) : List ResultVar → Option (List AV)
  | [] => some []
  | r :: rs => match resOne P H f r, resAll P H f rs with | some x, some xs => some (x :: xs) | _, _ => none
def resTup : List AV → AV
  | [x] => x
  | xs => .tup xs
def resOk (n : Nat) : ResultVar → Bool
  | .tmp t => t < n
  | .cell a _ => a < n
def retQ (P : Program) (rs : List ResultVar) (R : AE → List Blk → Prop) : AQ := fun x f H ds =>
  match x with
  | .normal => ds = [] ∧ bindO (resAll P H f rs) fun xs => R (.ret (resTup xs)) H
  | .ret => ds = [] ∧ bindO (resAll P H f rs) fun xs => R (.ret (resTup xs)) H
  | .pan x => ds = [] ∧ R (.pan x) H
  | _ => False
def resSem (tmps : Array Value) : ResultVar → Sem Value
  | .tmp t => pure (tmps.getD t undef)
  | .cell a t => do loadVar t (← asAddr (tmps.getD a undef))
theorem res_rep {B : Nat} {w0 : World} {cx : Cx} (h : HRel B w0 cx) {f : Fr} {a : Act} (hf : FRel cx n f a) : ∀ (rs : List ResultVar) (xs : List AV), rs.all (resOk n) = true → resAll P cx.H f rs = some xs →
    ∃ vs : List Value, (rs.mapM (resSem a.tmps)).run P cx.w = .ok vs cx.w ∧ RepL cx false xs vs
  | [], xs, _, h => by simp [resAll] at h; subst h; exact ⟨[], by simp, RepL.nil _ _⟩
  | r :: rs, xs, hok, hx => by
    simp only [List.all_cons, Bool.and_eq_true] at hok
    simp only [resAll] at hx
    split at hx
    · rename_i x xs' h1 h2
      cases hx
      obtain ⟨vs, e1, e2⟩ := res_rep h hf rs xs' hok.2 h2
      cases r with
      | tmp t =>
        simp only [resOne] at h1; cases h1
        refine ⟨a.tmps.getD t undef :: vs, ?_, e2.cons (hf.2 t (by simpa [resOk] using hok.1))⟩
        simp only [List.mapM_cons, Sem.run_bind, resSem, Sem.run_pure, Result.andThen_ok, e1]
      | cell p t =>
        simp only [resOne] at h1
        split at h1
        · rename_i cs sz b hc hsz hag
          have hp := hf.2 p (by simpa [resOk] using hok.1)
          obtain ⟨y, hy, hr⟩ := run_loadAt (P := P) h hsz hag hc h1 hp
          obtain ⟨bb, oo, vals, hptr, _, _⟩ := cellsAt_rep h hc hp
          have hl : (resSem a.tmps (.cell p t)).run P cx.w = .ok y cx.w := by
            simp only [resSem]
            rw [hptr] at hy ⊢
            simpa [Instr.loadAt, Instr.sureAddr, asAddr] using hy
          refine ⟨y :: vs, ?_, e2.cons hr⟩
          simp only [List.mapM_cons, Sem.run_bind, hl, Sem.run_pure, Result.andThen_ok, e1]
        · cases h1
    · cases hx
theorem results_rep {B : Nat} {w0 : World} {cx : Cx} {fn : Func} (h : HRel B w0 cx) {f : Fr} {a : Act} (hf : FRel cx n f a) {xs : List AV} (hok : fn.results.toList.all (resOk n) = true) (hx : resAll P cx.H f fn.results.toList = some xs) :
    ∃ y, (results fn a.tmps).run P cx.w = .ok y cx.w ∧ Rep cx false (resTup xs) y := by
  obtain ⟨vs, e1, e2⟩ := res_rep (P := P) h hf _ xs hok hx
  refine ⟨if h : vs.toArray.size = 1 then vs.toArray[0] else .tuple vs.toArray, ?_, ?_⟩
  · have hm : (fn.results.mapM (resSem a.tmps)).run P cx.w = .ok vs.toArray cx.w := by
      rw [Array.mapM_eq_mapM_toList, Sem.run_map, e1]; rfl
    show (fn.results.mapM (resSem a.tmps) >>= fun vs => pure (if h : vs.size = 1 then vs[0] else .tuple vs)).run P cx.w = _
    rw [Sem.run_bind, hm]
    rfl
  · match xs, vs, e2 with
    | [], vs, e2 => obtain rfl := e2.nil_inv; exact rep_tup (RepL.nil _ _)
    | [x], vs, e2 => obtain ⟨y, ys, rfl, h1, h2⟩ := e2.cons_inv; obtain rfl := h2.nil_inv; exact h1
    | x :: x' :: xs, vs, e2 =>
      obtain ⟨y, ys, rfl, h1, h2⟩ := e2.cons_inv
      obtain ⟨y', ys', rfl, h3, h4⟩ := h2.cons_inv
      simp
      have := rep_tup e2
      simpa [resTup] using this
theorem acalls_of_vc {fid : FuncId} {fn : Func} {c : Code} {args : List AV} {H : List Blk} {R : AE → List Blk → Prop} (hf : P.funcs[fid]? = some fn) (hb : fn.body = some c)
    (hs : (smallC hn od fn.ntmps c && fn.results.toList.all (resOk fn.ntmps) && decide (args.length ≤ fn.ntmps) && P.follows .mixedOrders) = true)
    (h : vcC P hn od fn.ntmps c (retQ P fn.results.toList R) (frm args 0) H []) : ACalls P fid args H R := by
  simp only [Bool.and_eq_true, decide_eq_true_eq] at hs
  obtain ⟨⟨⟨hs1, hs2⟩, hs3⟩, hm⟩ := hs
  intro B w0 cx vals h1 h2 h3
  refine calls_of_wp hf hb ?_
  have hlen : vals.length = args.length := h3.len.symm
  have hfr : FRel cx fn.ntmps (frm args 0) { tmps := vals.toArray ++ Array.replicate (fn.ntmps - vals.toArray.size) undef, defers := [] } := by
    refine ⟨by simp; omega, fun t ht => ?_⟩
    rw [frm_get]
    simp only [Nat.zero_le, if_true, Nat.sub_zero]
    rw [Array.getD_eq_getD_getElem?, Array.getElem?_append]
    by_cases htl : t < vals.length
    · have e1 : args.getD t (.tup []) = args[t]'(by omega) := by simp [List.getD_eq_getElem?_getD, List.getElem?_eq_getElem (show t < args.length by omega)]
      rw [e1, if_pos (by simpa using htl)]
      simp only [List.getElem?_toArray, List.getElem?_eq_getElem htl, Option.getD_some]
      exact h3.rep t _ _ (List.getElem?_eq_getElem (by omega)) (List.getElem?_eq_getElem htl)
    · have e1 : args.getD t (.tup []) = .tup [] := by simp [List.getD_eq_getElem?_getD, List.getElem?_eq_none (show args.length ≤ t by omega)]
      rw [e1, if_neg (by simpa using htl)]
      have : ((Array.replicate (fn.ntmps - vals.toArray.size) undef)[t - vals.toArray.size]?).getD undef = undef := by
        rw [Array.getElem?_replicate]; split <;> rfl
      rw [this]; exact tup_nil_undef _ _
  refine wp_mono (fo_wp.1 (vcC_sound hm hs1 h none (fun hs => by cases hs) B w0 cx cx _ h1 (Le.refl _) h2 hfr trivial)) fun e a' w' hp => ?_
  obtain ⟨cx', x, f', ds', rfl, b1, b2, b3, b4, b5, b6⟩ := hp
  have dnil : ds' = [] → a'.defers = [] := fun hd => by
    subst hd
    cases hdd : a'.defers with
    | nil => rfl
    | cons d l => rw [hdd] at b4; exact b4.elim
  cases e <;> cases x <;> first | exact b5.elim | skip
  · obtain ⟨hd, xs, hx, hR⟩ := b6
    obtain ⟨y, hy, hr⟩ := results_rep (P := P) b1 b3 hs2 hx
    exact ⟨dnil hd, y, hy, cx', _, rfl, b1, b2, hr, hR⟩
  · exact b6.elim
  · exact b6.elim
  · obtain ⟨hd, xs, hx, hR⟩ := b6
    obtain ⟨y, hy, hr⟩ := results_rep (P := P) b1 b3 hs2 hx
    exact ⟨dnil hd, y, hy, cx', _, rfl, b1, b2, hr, hR⟩
  · obtain ⟨hd, hR⟩ := b6
    obtain ⟨y, hch, hr⟩ := b5
    exact ⟨dnil hd, cx', _, y, rfl, b1, b2, hch, hr, hR⟩
end
end Go.Mu
universe u
namespace Go.Mu
open Go.RowKit (Below)
def Wit {α : Sort u} (_ : α) : Type := Unit
def wit {α : Sort u} (x : α) : Wit x := PUnit.unit
def bindOW {α : Type} (a : Option α) (k : α → Prop) (_ : Wit k) : Prop := bindO a k
def bindVW (a : AV) (k : AV → Prop) (_ : Wit k) : Prop := k a
def bindHW (a : List Blk) (k : List Blk → Prop) (_ : Wit k) : Prop := k a
def andVW (c k : Prop) (_ : Wit k) : Prop := andV c k
def condVW (a : AV) (y n : Prop) (_ : Wit y) (_ : Wit n) : Prop := condV a y n
def guardVW (a : AV) (w : Bool) (y n : Prop) (_ : Wit y) (_ : Wit n) : Prop := guardV a w y n
def callVW (P : Program) (H : List Blk) (fv : AV) (args : List AV) (K pan : AV → List Blk → Prop) (_ : Wit K) (_ : Wit pan) : Prop := callV P H fv args K pan
def ACallsW (P : Program) (fid : FuncId) (args : List AV) (H : List Blk) (R : AE → List Blk → Prop) (_ : Wit R) : Prop := ACalls P fid args H R
def AWPW (P : Program) (n : Nat) (c : Code) (Q : AQ) (f : Fr) (H : List Blk) (ds : List ADef) (_ : Wit (n, c, Q, f, H, ds)) : Prop := AWP P n c Q f H ds
def vcLW (P : Program) (hn : Nat → Bool) (dr : Bool) (ops : Array Oper) (l : List Oper) (Q : AQ) (f : Fr) (H : List Blk) (ds : List ADef) (_ : Wit (hn, ops, l, Q, f, H, ds)) : Prop := vcL P hn dr ops l Q f H ds
def vcCW (P : Program) (hn : Nat → Bool) (od : Nat → Option OPlan) (n : Nat) (c : Code) (Q : AQ) (f : Fr) (H : List Blk) (ds : List ADef) (_ : Wit (hn, od, n, c, Q, f, H, ds)) : Prop := vcC P hn od n c Q f H ds
def opsL (l : List Oper) : List Nat → List Oper
  | [] => []
  | i :: is => match l[i]? with | some o => o :: opsL l is | none => opsL l is
theorem opsL_eq (l : List Oper) (is : List Nat) : opsL l is = is.filterMap fun i => l[i]? := by
  induction is with
  | nil => rfl
  | cons i is ih => simp only [opsL, List.filterMap_cons]; cases l[i]? <;> simp [ih]
@[simp] theorem opsL_nil (l : List Oper) : opsL l [] = [] := (rfl)
@[simp] theorem opsL_cons (l : List Oper) (i : Nat) (is : List Nat) : opsL l (i :: is) = (match l[i]? with | some o => o :: opsL l is | none => opsL l is) := (rfl)
def QW (Q : AQ) (x : AX) (f : Fr) (H : List Blk) (ds : List ADef) (_ : Wit (Q, x, f, H, ds)) : Prop := Q x f H ds
def fW (t : Nat) (f : Fr) (_ : Wit f) : AV := f t
def vcPW (P : Program) (hn : Nat → Bool) (od : Option OPlan) (ops : Array Oper) (Q : AQ) (f : Fr) (H : List Blk) (ds : List ADef) (_ : Wit (hn, ops, Q, f, H, ds)) : Prop :=
  match od with | none => vcL P hn true ops ops.toList Q f H ds | some p => vcX P hn ops Q ds p f H
def vcXW (P : Program) (hn : Nat → Bool) (p : OPlan) (ops : Array Oper) (Q : AQ) (f : Fr) (H : List Blk) (ds : List ADef) (_ : Wit (hn, ops, Q, f, H, ds)) : Prop := vcX P hn ops Q ds p f H
def lateW (P : Program) (hn : Nat → Bool) (l : List Oper) (ops : Array Oper) (f : Fr) (H : List Blk) (_ : Wit (hn, ops, f, H)) : Prop := lateV P hn ops f H l
def vcDW (P : Program) (hn : Nat → Bool) (l : List Oper) (ops : Array Oper) (Q : AQ) (f : Fr) (H : List Blk) (ds : List ADef) (_ : Wit (hn, ops, Q, f, H, ds)) : Prop := vcL P hn true ops l Q f H ds
@[simp] theorem vcPW_none (P : Program) (hn : Nat → Bool) (l : List Oper) (Q : AQ) (f : Fr) (H : List Blk) (ds : List ADef) (w : Wit (hn, l.toArray, Q, f, H, ds)) : vcPW P hn none l.toArray Q f H ds w = vcLW P hn true l.toArray l Q f H ds (wit _) := (rfl)
@[simp] theorem vcPW_some (P : Program) (hn : Nat → Bool) (p : OPlan) (ops : Array Oper) (Q : AQ) (f : Fr) (H : List Blk) (ds : List ADef) (w : Wit (hn, ops, Q, f, H, ds)) : vcPW P hn (some p) ops Q f H ds w = vcXW P hn p ops Q f H ds (wit _) := (rfl)
@[simp] theorem vcXW_nil (P : Program) (hn : Nat → Bool) (ops : Array Oper) (Q : AQ) (f : Fr) (H : List Blk) (ds : List ADef) (w : Wit (hn, ops, Q, f, H, ds)) : vcXW P hn [] ops Q f H ds w = QW Q .normal f H ds (wit _) := (rfl)
@[simp] theorem vcXW_pure (P : Program) (hn : Nat → Bool) (i : Nat) (p : OPlan) (l : List Oper) (Q : AQ) (f : Fr) (H : List Blk) (ds : List ADef) (w : Wit (hn, l.toArray, Q, f, H, ds)) : vcXW P hn ((i, []) :: p) l.toArray Q f H ds w = vcDW P hn (opsL l [i]) l.toArray (thenQ (fun f' H' _ => vcX P hn l.toArray Q ds p f' H') Q) f H ds (wit _) := by
  simp only [vcXW, vcX, vcDW, opsAt, opsL_eq, List.getElem?_toArray, List.filterMap_nil, lateV, true_and]
@[simp] theorem vcXW_late (P : Program) (hn : Nat → Bool) (i j : Nat) (js : List Nat) (p : OPlan) (l : List Oper) (Q : AQ) (f : Fr) (H : List Blk) (ds : List ADef) (w : Wit (hn, l.toArray, Q, f, H, ds)) : vcXW P hn ((i, j :: js) :: p) l.toArray Q f H ds w = vcDW P hn (opsL l [i]) l.toArray (thenQ (fun f' H' _ => lateW P hn (opsL l (j :: js)) l.toArray f' H' (wit _) ∧ vcXW P hn p l.toArray Q f' H' ds (wit _)) Q) f H ds (wit _) := by
  simp only [vcXW, vcX, vcDW, lateW, opsAt, opsL_eq, List.getElem?_toArray]
@[simp] theorem vcX_W (P : Program) (hn : Nat → Bool) (p : OPlan) (ops : Array Oper) (Q : AQ) (f : Fr) (H : List Blk) (ds : List ADef) : vcX P hn ops Q ds p f H = vcXW P hn p ops Q f H ds (wit _) := (rfl)
@[simp] theorem lateW_nil (P : Program) (hn : Nat → Bool) (ops : Array Oper) (f : Fr) (H : List Blk) (w : Wit (hn, ops, f, H)) : lateW P hn [] ops f H w = True := (rfl)
@[simp] theorem lateW_cons (P : Program) (hn : Nat → Bool) (dst : Option Tmp) (op : Op) (ty : TypeId) (pos : String) (aft : Array Edge) (g : Option (Nat × Bool)) (l : List Oper) (ops : Array Oper) (f : Fr) (H : List Blk) (w : Wit (hn, ops, f, H)) :
  lateW P hn (Oper.mk dst op ty pos aft g :: l) ops f H w = (vcLW P hn true ops [Oper.mk dst op ty pos aft g] (lateQ dst f H) f H [] (wit _) ∧ lateW P hn l ops f H (wit _)) := (rfl)
@[simp ↓] theorem QW_late_some (d : Nat) (f f' : Fr) (H H' : List Blk) (ds : List ADef) (w : Wit (lateQ (some d) f H, AX.normal, f', H', ds)) : QW (lateQ (some d) f H) .normal f' H' ds w = (H' = H ∧ fW d f' (wit _) = fW d f (wit _)) := (rfl)
@[simp] theorem vcDW_cons (P : Program) (hn : Nat → Bool) (o : Oper) (l : List Oper) (ops : Array Oper) (Q : AQ) (f : Fr) (H : List Blk) (ds : List ADef) (w : Wit (hn, ops, Q, f, H, ds)) : vcDW P hn (o :: l) ops Q f H ds w = vcLW P hn true ops (o :: l) Q f H ds (wit _) := (rfl)
def idxVW (H : List Blk) (sz : Nat) (x : AV) (i : Int) (k : AV → Prop) (_ : Wit k) : Prop := idxV H sz x i k
def idxAW (H : List Blk) (len sz : Nat) (x : AV) (i : Int) (k : AV → Prop) (_ : Wit k) : Prop := idxA H len sz x i k
def sliceVW (H : List Blk) (sz : Nat) (x : AV) (lo hi : Option Int) (k : AV → Prop) (_ : Wit k) : Prop := sliceV H sz x lo hi k
def sliceAW (len sz : Nat) (x : AV) (lo hi : Option Int) (k : AV → Prop) (_ : Wit k) : Prop := sliceA len sz x lo hi k
@[simp] theorem sliceAW_bp (len sz h off : Nat) (lo hi : Option Int) (k : AV → Prop) (w : Wit k) : sliceAW len sz (.bp h off) lo hi k w = andVW (0 ≤ lo.getD 0 ∧ lo.getD 0 ≤ hi.getD len ∧ hi.getD len ≤ len ∧ lo.getD 0 < len) (k (.bs h (off + (lo.getD 0).toNat * sz) ((hi.getD len).toNat - (lo.getD 0).toNat))) (wit _) := (rfl)
def appendVW (H : List Blk) (sl : TypeId × Nat × List Value × Nat) (s : AV) (ys : List (List AV)) (K : AV → List Blk → Prop) (_ : Wit K) : Prop := appendV H sl s ys K
def copyVW (H : List Blk) (d : AV) (ys : List (List AV)) (K : AV → List Blk → Prop) (_ : Wit K) : Prop := copyV H d ys K
@[simp] theorem copyVW_hs (H : List Blk) (k off n ver : Nat) (ys : List (List AV)) (K : AV → List Blk → Prop) (w : Wit K) : copyVW H (.hs k off n ver) ys K w = (match H[k]? with
    | some (.row t z es) => andVW (z = 1 ∧ es.length = ver ∧ off + n ≤ ver) (bindHW (H.set k (.row t z (es.take off ++ ys.take n ++ es.drop (off + min ys.length n)))) (fun H' => K (.v (.int .i64 (min ys.length n : Nat))) H') (wit _)) (wit _)
    | _ => False) := (rfl)
def appFzW (s x : AV) (sl : TypeId × Nat × List Value × Nat) (K : AV → Prop) (_ : Wit K) : Prop := appFz s x sl K
def mapUpdW (H : List Blk) (m : AV) (k : Option Value) (x : AV) (d : TypeDesc) (K : List Blk → Prop) (_ : Wit K) : Prop := mapUpd H m k x d K
def evW (x : Operand) (f : Fr) (_ : Wit f) : AV := ev f x
def evs (l : List Operand) (f : Fr) (_ : Wit f) : List AV := l.map (ev f)
def evp (l : List (Nat × Operand)) (f : Fr) (_ : Wit f) : List (Nat × AV) := l.map fun x => (x.1, ev f x.2)
def resW (P : Program) (H : List Blk) (rs : List ResultVar) (f : Fr) (_ : Wit f) : Option (List AV) := resAll P H f rs
@[simp] theorem bindVW_eq (a : AV) (k : AV → Prop) (w : Wit k) : bindVW a k w = k a := (rfl)
@[simp] theorem bindHW_eq (a : List Blk) (k : List Blk → Prop) (w : Wit k) : bindHW a k w = k a := (rfl)
@[simp] theorem bindOW_some {α : Type} (a : α) (k : α → Prop) (w : Wit k) : bindOW (some a) k w = k a := by simp [bindOW, bindO]
theorem bindOW_intro {α : Type} {a : Option α} {b : α} {k : α → Prop} {w : Wit k} (h : a = some b) (hk : k b) : bindOW a k w := ⟨b, h, hk⟩
@[simp] theorem andVW_true (k : Prop) (w : Wit k) : andVW True k w = k := by simp [andVW, andV]
theorem andVW_intro {c k : Prop} {w : Wit k} (h : c) (hk : k) : andVW c k w := ⟨h, hk⟩
@[simp] theorem condVW_true (y n : Prop) (w : Wit y) (w' : Wit n) : condVW (.v (.bool true)) y n w w' = y := (rfl)
@[simp] theorem condVW_false (y n : Prop) (w : Wit y) (w' : Wit n) : condVW (.v (.bool false)) y n w w' = n := (rfl)
theorem condVW_intro {b : Bool} {y n : Prop} {w : Wit y} {w' : Wit n} (hy : b = true → y) (hn : b = false → n) : condVW (.v (.bool b)) y n w w' := by
  cases b
  · exact hn rfl
  · exact hy rfl
theorem condVW_introD {p : Prop} [Decidable p] {y n : Prop} {w : Wit y} {w' : Wit n} (hy : p → y) (hn : ¬p → n) : condVW (.v (.bool (decide p))) y n w w' :=
  condVW_intro (fun h => hy (of_decide_eq_true h)) (fun h => hn (of_decide_eq_false h))
@[simp] theorem guardVW_tt (y n : Prop) (w : Wit y) (w' : Wit n) : guardVW (.v (.bool true)) true y n w w' = y := by simp [guardVW, guardV]
@[simp] theorem guardVW_tf (y n : Prop) (w : Wit y) (w' : Wit n) : guardVW (.v (.bool true)) false y n w w' = n := by simp [guardVW, guardV]
@[simp] theorem guardVW_ft (y n : Prop) (w : Wit y) (w' : Wit n) : guardVW (.v (.bool false)) true y n w w' = n := by simp [guardVW, guardV]
@[simp] theorem guardVW_ff (y n : Prop) (w : Wit y) (w' : Wit n) : guardVW (.v (.bool false)) false y n w w' = y := by simp [guardVW, guardV]
@[simp] theorem guardVW_tup (b : Bool) (y n : Prop) (w : Wit y) (w' : Wit n) : guardVW (.tup []) b y n w w' = n := (rfl)
theorem guardVW_introT {b : Bool} {y n : Prop} {w : Wit y} {w' : Wit n} (hy : b = true → y) (hn : b = false → n) : guardVW (.v (.bool b)) true y n w w' := by
  cases b
  · exact ⟨fun h => (by cases h), fun _ => hn rfl⟩
  · exact ⟨fun _ => hy rfl, fun h => absurd rfl h⟩
theorem guardVW_introF {b : Bool} {y n : Prop} {w : Wit y} {w' : Wit n} (hy : b = true → n) (hn : b = false → y) : guardVW (.v (.bool b)) false y n w w' := by
  cases b
  · exact ⟨fun _ => hn rfl, fun h => absurd rfl h⟩
  · exact ⟨fun h => (by cases h), fun _ => hy rfl⟩
theorem guardVW_introTD {p : Prop} [Decidable p] {y n : Prop} {w : Wit y} {w' : Wit n} (hy : p → y) (hn : ¬p → n) : guardVW (.v (.bool (decide p))) true y n w w' :=
  guardVW_introT (fun h => hy (of_decide_eq_true h)) (fun h => hn (of_decide_eq_false h))
theorem guardVW_introFD {p : Prop} [Decidable p] {y n : Prop} {w : Wit y} {w' : Wit n} (hy : p → n) (hn : ¬p → y) : guardVW (.v (.bool (decide p))) false y n w w' :=
  guardVW_introF (fun h => hy (of_decide_eq_true h)) (fun h => hn (of_decide_eq_false h))
def callTVW (P : Program) (hn : Nat → Bool) (dr : Bool) (H : List Blk) (dst : Option Tmp) (fv : AV) (args : List AV) (K pan : AV → List Blk → Prop) (_ : Wit K) (_ : Wit pan) : Prop := callTV P hn dr H dst fv args K pan
def callDVW (P : Program) (H : List Blk) (fv : AV) (args : List AV) (K : AV → List Blk → Prop) (_ : Wit K) : Prop := callDV P H fv args K
def callDW (P : Program) (g : FuncId) (args : List AV) (H : List Blk) (K : AV → List Blk → Prop) (_ : Wit K) : Prop := ∃ r, ACalls P g args H (fun e H' => e = .ret r ∧ H' = H) ∧ K r H
theorem callDW_intro {P : Program} {g : FuncId} {args : List AV} {H : List Blk} {K : AV → List Blk → Prop} {w : Wit K} {r : AV} (h : ACalls P g args H (fun e H' => e = .ret r ∧ H' = H)) (k : K r H) : callDW P g args H K w := ⟨r, h, k⟩
@[simp] theorem callTVW_seq {P : Program} {hn : Nat → Bool} {H : List Blk} (dst : Option Tmp) (fv : AV) (args : List AV) (K pan : AV → List Blk → Prop) (w : Wit K) (w' : Wit pan) : callTVW P hn false H dst fv args K pan w w' = callVW P H fv args K pan (wit _) (wit _) := by simp [callTVW, callTV]; rfl
@[simp] theorem callTVW_own {P : Program} {hn : Nat → Bool} {H : List Blk} {d : Tmp} (h : hn d = true) (fv : AV) (args : List AV) (K pan : AV → List Blk → Prop) (w : Wit K) (w' : Wit pan) : callTVW P hn true H (some d) fv args K pan w w' = callVW P H fv args K pan (wit _) (wit _) := by simp [callTVW, callTV, h]; rfl
@[simp] theorem callTVW_det {P : Program} {hn : Nat → Bool} {H : List Blk} {d : Tmp} (h : hn d = false) (fv : AV) (args : List AV) (K pan : AV → List Blk → Prop) (w : Wit K) (w' : Wit pan) : callTVW P hn true H (some d) fv args K pan w w' = callDVW P H fv args K (wit _) := by simp [callTVW, callTV, h]; rfl
@[simp] theorem callDVW_fn {P : Program} {H : List Blk} (g : FuncId) (first cap args : List AV) (K : AV → List Blk → Prop) (w : Wit K) : callDVW P H (.fn (.func g) first cap) args K w = andVW (okFn P g = true) (callDW P g (first ++ args ++ cap) H K (wit _)) (wit _) := (rfl)
@[simp] theorem callVW_fn {P : Program} {H : List Blk} (g : FuncId) (first cap args : List AV) (K pan : AV → List Blk → Prop) (w : Wit K) (w' : Wit pan) : callVW P H (.fn (.func g) first cap) args K pan w w' = andVW (okFn P g = true) (ACallsW P g (first ++ args ++ cap) H (callK K pan) (wit _)) (wit _) := (rfl)
@[simp] theorem idxVW_vs (H : List Blk) (sz sz' : Nat) (es : List (List AV)) (i : Int) (k : AV → Prop) (w : Wit k) : idxVW H sz (.vs sz' es) i k w = andVW (sz' = sz ∧ 0 ≤ i) (bindOW es[i.toNat]? (fun e => k (.vp e)) (wit _)) (wit _) := (rfl)
@[simp] theorem idxVW_hs (H : List Blk) (sz h off n ver : Nat) (i : Int) (k : AV → Prop) (w : Wit k) : idxVW H sz (.hs h off n ver) i k w = (match H[h]? with | some (.row _ z es) => andVW (z = sz ∧ es.length = ver ∧ 0 ≤ i ∧ i < n) (k (.rp h ver (off + i.toNat) 0)) (wit _) | _ => False) := (rfl)
@[simp] theorem idxAW_bp (H : List Blk) (len sz h off : Nat) (i : Int) (k : AV → Prop) (w : Wit k) : idxAW H len sz (.bp h off) i k w = andVW (0 ≤ i ∧ i < len) (k (.bp h (off + i.toNat * sz))) (wit _) := (rfl)
@[simp] theorem sliceVW_vs (H : List Blk) (sz sz' : Nat) (es : List (List AV)) (lo hi : Option Int) (k : AV → Prop) (w : Wit k) : sliceVW H sz (.vs sz' es) lo hi k w =
  andVW (sz' = sz ∧ 0 ≤ lo.getD 0 ∧ lo.getD 0 ≤ hi.getD es.length ∧ hi.getD es.length ≤ es.length) (k (.vs sz ((es.take (hi.getD es.length).toNat).drop (lo.getD 0).toNat))) (wit _) := (rfl)
@[simp] theorem appFzW_nil (sz : Nat) (ys : List (List AV)) (sl : TypeId × Nat × List Value × Nat) (K : AV → Prop) (w : Wit K) : appFzW (.v (.slice none 0 0)) (.vs sz ys) sl K w =
  andVW (sz = sl.2.1) (andVW (ys.length * sl.2.2.2 ≤ 140737488355328 ∧ ys.length ≤ 9223372036854775807) (K (.vs sz ys)) (wit _)) (wit _) := (rfl)
@[simp] theorem mapUpdW_hm (H : List Blk) (h : Nat) (k : Option Value) (x : AV) (d : TypeDesc) (K : List Blk → Prop) (w : Wit K) : mapUpdW H (.hm h) k x d K w = bindOW (mapEs H (.hm h)) (fun es => bindOW k (fun k => bindOW (mset d k x es) (fun es' => bindHW (H.set h (.map es')) K (wit _)) (wit _)) (wit _)) (wit _) := (rfl)
@[simp ↓] theorem upd_eval (f : Fr) (d t : Nat) (x : AV) : upd f d x t = if t = d then x else f t := (rfl)
@[simp ↓] theorem updO_some (f : Fr) (d : Nat) (x : AV) : updO f (some d) x = upd f d x := (rfl)
@[simp ↓] theorem updO_none (f : Fr) (x : AV) : updO f none x = f := (rfl)
@[simp ↓] theorem evW_tmp (f : Fr) (t : Nat) (w : Wit f) : evW (.tmp t) f w = fW t f (wit _) := (rfl)
@[simp ↓] theorem evW_const (f : Fr) (x : Value) (w : Wit f) : evW (.const x) f w = .v x := (rfl)
@[simp ↓] theorem evW_func (f : Fr) (g : Nat) (w : Wit f) : evW (.func g) f w = .fn (.func g) [] [] := (rfl)
@[simp ↓] theorem fW_upd (f : Fr) (d t : Nat) (x : AV) (w : Wit (upd f d x)) : fW t (upd f d x) w = if t = d then x else fW t f (wit _) := (rfl)
@[simp ↓] theorem fW_updS (f : Fr) (d t : Nat) (x : AV) (w : Wit (updO f (some d) x)) : fW t (updO f (some d) x) w = if t = d then x else fW t f (wit _) := (rfl)
@[simp ↓] theorem fW_updN (f : Fr) (t : Nat) (x : AV) (w : Wit (updO f none x)) : fW t (updO f none x) w = fW t f (wit _) := (rfl)
@[simp ↓] theorem fW_frm_cons (a : AV) (as : List AV) (i t : Nat) (w : Wit (frm (a :: as) i)) : fW t (frm (a :: as) i) w = if t = i then a else fW t (frm as (i + 1)) (wit _) := (rfl)
@[simp ↓] theorem evs_nil (f : Fr) (w : Wit f) : evs [] f w = [] := (rfl)
@[simp ↓] theorem evs_cons (x : Operand) (l : List Operand) (f : Fr) (w : Wit f) : evs (x :: l) f w = evW x f (wit _) :: evs l f (wit _) := (rfl)
@[simp ↓] theorem evp_nil (f : Fr) (w : Wit f) : evp [] f w = [] := (rfl)
@[simp ↓] theorem evp_cons (i : Nat) (x : Operand) (l : List (Nat × Operand)) (f : Fr) (w : Wit f) : evp ((i, x) :: l) f w = (i, evW x f (wit _)) :: evp l f (wit _) := (rfl)
@[simp ↓] theorem resW_nil (P : Program) (H : List Blk) (f : Fr) (w : Wit f) : resW P H [] f w = some [] := (rfl)
@[simp ↓] theorem resW_tmp (P : Program) (H : List Blk) (t : Nat) (rs : List ResultVar) (f : Fr) (w : Wit f) : resW P H (.tmp t :: rs) f w = (resW P H rs f (wit _)).map (fW t f (wit _) :: ·) := by
  simp only [resW, resAll, resOne]; cases resAll P H f rs <;> rfl
theorem resW_cell (P : Program) (H : List Blk) (a t : Nat) (rs : List ResultVar) (f : Fr) (w : Wit f) : resW P H (.cell a t :: rs) f w =
  (match cellsAt H (fW a f (wit _)), szOf P t, aggOf P t with | some cs, some sz, some b => (aload b sz cs).bind fun x => (resW P H rs f (wit _)).map (x :: ·) | _, _, _ => none) := by
  simp only [resW, resAll, resOne, fW]
  cases cellsAt H (f a) with
  | none => rfl
  | some cs =>
    cases szOf P t with
    | none => rfl
    | some sz =>
      cases aggOf P t with
      | none => rfl
      | some b =>
        simp only
        cases aload b sz cs with
        | none => rfl
        | some x => cases resAll P H f rs <;> rfl
attribute [simp ↓] resW_cell
@[simp] theorem resTup_one (x : AV) : resTup [x] = x := (rfl)
@[simp] theorem resTup_nil : resTup [] = .tup [] := (rfl)
@[simp] theorem resTup_two (x y : AV) (l : List AV) : resTup (x :: y :: l) = .tup (x :: y :: l) := (rfl)
def gdL : List Oper → Nat → Nat
  | [], _ => 0
  | ⟨dst, _, _, _, _, _⟩ :: _, 0 => dst.getD 0
  | _ :: l, j + 1 => gdL l j
theorem gdst_gdL : ∀ (l : List Oper) (j : Nat), gdst l.toArray j = gdL l j
  | [], j => by simp [gdst, gdL]
  | ⟨dst, _, _, _, _, _⟩ :: l, 0 => by simp [gdst, gdL]
  | o :: l, j + 1 => by
    have := gdst_gdL l j
    simp only [gdst, List.getElem?_toArray] at this ⊢
    simpa [gdL] using this
def gdW (j : Nat) (ops : Array Oper) (_ : Wit ops) : Nat := gdst ops j
def gdLW (j : Nat) (l : List Oper) (_ : Wit l) : Nat := gdL l j
@[simp ↓] theorem gdW_lit (l : List Oper) (j : Nat) (w : Wit l.toArray) : gdW j l.toArray w = gdLW j l (wit _) := gdst_gdL l j
@[simp ↓] theorem gdLW_zero (dst : Option Tmp) (op : Op) (ty : TypeId) (pos : String) (aft : Array Edge) (g : Option (Nat × Bool)) (l : List Oper) (w : Wit (Oper.mk dst op ty pos aft g :: l)) : gdLW 0 (⟨dst, op, ty, pos, aft, g⟩ :: l) w = dst.getD 0 := (rfl)
@[simp ↓] theorem gdLW_succ (o : Oper) (l : List Oper) (j : Nat) (w : Wit (o :: l)) : gdLW (j + 1) (o :: l) w = gdLW j l (wit _) := by cases o; rfl
@[simp ↓] theorem vcLW_nil (P : Program) (hn : Nat → Bool) (dr : Bool) (ops : Array Oper) (Q : AQ) (f : Fr) (H : List Blk) (ds : List ADef) (w : Wit (hn, ops, ([] : List Oper), Q, f, H, ds)) : vcLW P hn dr ops [] Q f H ds w = QW Q .normal f H ds (wit _) := (rfl)
@[simp ↓] theorem QW_then_normal (k : Fr → List Blk → List ADef → Prop) (Q : AQ) (f : Fr) (H : List Blk) (ds : List ADef) (w : Wit (thenQ k Q, AX.normal, f, H, ds)) : QW (thenQ k Q) .normal f H ds w = k f H ds := (rfl)
@[simp ↓] theorem QW_block_normal (id : Nat) (Q : AQ) (f : Fr) (H : List Blk) (ds : List ADef) (w : Wit (blockQ id Q, AX.normal, f, H, ds)) : QW (blockQ id Q) .normal f H ds w = QW Q .normal f H ds (wit _) := (rfl)
@[simp ↓] theorem QW_then_exit (k : Fr → List Blk → List ADef → Prop) (Q : AQ) (i : Nat) (f : Fr) (H : List Blk) (ds : List ADef) (w : Wit (thenQ k Q, (AX.exit i), f, H, ds)) : QW (thenQ k Q) (.exit i) f H ds w = QW Q (.exit i) f H ds (wit _) := (rfl)
@[simp ↓] theorem QW_block_exit (id : Nat) (Q : AQ) (i : Nat) (f : Fr) (H : List Blk) (ds : List ADef) (w : Wit (blockQ id Q, (AX.exit i), f, H, ds)) : QW (blockQ id Q) (.exit i) f H ds w = if i = id then QW Q .normal f H ds (wit _) else QW Q (.exit i) f H ds (wit _) := (rfl)
@[simp ↓] theorem QW_then_ret (k : Fr → List Blk → List ADef → Prop) (Q : AQ) (f : Fr) (H : List Blk) (ds : List ADef) (w : Wit (thenQ k Q, AX.ret, f, H, ds)) : QW (thenQ k Q) .ret f H ds w = QW Q .ret f H ds (wit _) := (rfl)
@[simp ↓] theorem QW_block_ret (id : Nat) (Q : AQ) (f : Fr) (H : List Blk) (ds : List ADef) (w : Wit (blockQ id Q, AX.ret, f, H, ds)) : QW (blockQ id Q) .ret f H ds w = QW Q .ret f H ds (wit _) := (rfl)
@[simp ↓] theorem QW_retN (P : Program) (rs : List ResultVar) (R : AE → List Blk → Prop) (f : Fr) (H : List Blk) (ds : List ADef) (w : Wit (retQ P rs R, AX.normal, f, H, ds)) : QW (retQ P rs R) .normal f H ds w = andVW (ds = []) (bindOW (resW P H rs f (wit _)) (fun xs => bindVW (resTup xs) (fun x => R (.ret x) H) (wit _)) (wit _)) (wit _) := (rfl)
@[simp ↓] theorem QW_retR (P : Program) (rs : List ResultVar) (R : AE → List Blk → Prop) (f : Fr) (H : List Blk) (ds : List ADef) (w : Wit (retQ P rs R, AX.ret, f, H, ds)) : QW (retQ P rs R) .ret f H ds w = andVW (ds = []) (bindOW (resW P H rs f (wit _)) (fun xs => bindVW (resTup xs) (fun x => R (.ret x) H) (wit _)) (wit _)) (wit _) := (rfl)
def convW (P : Program) (s t : TypeId) (ko : Option IntKind) (x : AV) (k : AV → Prop) (_ : Wit k) : Prop := convV P s t ko x k
@[simp] theorem convW_int (P : Program) (s t : TypeId) (k : IntKind) (x : AV) (K : AV → Prop) (w : Wit K) : convW P s t (some k) x K w = andVW (undB P s = true) (bindOW (intA x) (fun n => K (.v (.int k (k.wrap n)))) (wit _)) (wit _) := (rfl)
@[simp] theorem convW_st (P : Program) (s t : TypeId) (x : AV) (K : AV → Prop) (w : Wit K) (hs : byS P s t = true) : convW P s t none x K w = bindOW (bstrA x) (fun b => K (.v (.string b))) (wit _) := by
  simp only [convW, convV, hs, if_true]; rfl
@[simp] theorem bstrA_vs (es : List (List AV)) : bstrA (.vs 1 es) = (numsB es).map strOfNums := (rfl)
section
variable (P : Program) (hn : Nat → Bool) (od : Nat → Option OPlan) (n : Nat) (Q : AQ) (f : Fr) (H : List Blk) (ds : List ADef)
@[simp ↓] theorem vcCW_skip  (w : Wit (hn, od, n, Code.skip, Q, f, H, ds)) : vcCW P hn od n .skip Q f H ds w = QW Q .normal f H ds (wit _) := (rfl)
@[simp ↓] theorem vcCW_region (id : Nat) (l : List Oper) (w : Wit (hn, od, n, (Code.region id l.toArray false), Q, f, H, ds)) : vcCW P hn od n (.region id l.toArray false) Q f H ds w = vcLW P hn false l.toArray l Q f H ds (wit _) := (rfl)
@[simp ↓] theorem vcCW_draw (id : Nat) (l : List Oper) (w : Wit (hn, od, n, (Code.region id l.toArray true), Q, f, H, ds)) : vcCW P hn od n (.region id l.toArray true) Q f H ds w = vcPW P hn (od id) l.toArray Q f H ds (wit _) := (rfl)
@[simp ↓] theorem vcCW_seq (a b : Code) (w : Wit (hn, od, n, (Code.seq a b), Q, f, H, ds)) : vcCW P hn od n (.seq a b) Q f H ds w = vcCW P hn od n a (thenQ (vcC P hn od n b Q) Q) f H ds (wit _) := (rfl)
@[simp ↓] theorem vcCW_cond (c : Operand) (a b : Code) (w : Wit (hn, od, n, (Code.cond c a b), Q, f, H, ds)) : vcCW P hn od n (.cond c a b) Q f H ds w = condVW (evW c f (wit _)) (vcCW P hn od n a Q f H ds (wit _)) (vcCW P hn od n b Q f H ds (wit _)) (wit _) (wit _) := (rfl)
@[simp ↓] theorem vcCW_block (id : Nat) (b : Code) (w : Wit (hn, od, n, (Code.block id b), Q, f, H, ds)) : vcCW P hn od n (.block id b) Q f H ds w = vcCW P hn od n b (blockQ id Q) f H ds (wit _) := (rfl)
@[simp ↓] theorem vcCW_loop (b : Code) (w : Wit (hn, od, n, (Code.loop b), Q, f, H, ds)) : vcCW P hn od n (.loop b) Q f H ds w = AWPW P n (.loop b) Q f H ds (wit _) := (rfl)
@[simp ↓] theorem vcCW_rangeFunc (g : Operand) (ps : Array Tmp) (x y : Code) (w : Wit (hn, od, n, (Code.rangeFunc g ps x y), Q, f, H, ds)) : vcCW P hn od n (.rangeFunc g ps x y) Q f H ds w = AWPW P n (.rangeFunc g ps x y) Q f H ds (wit _) := (rfl)
@[simp ↓] theorem vcCW_exit (id : Nat) (w : Wit (hn, od, n, (Code.exit id), Q, f, H, ds)) : vcCW P hn od n (.exit id) Q f H ds w = QW Q (.exit id) f H ds (wit _) := (rfl)
@[simp ↓] theorem vcCW_label (l : Nat) (w : Wit (hn, od, n, (Code.label l), Q, f, H, ds)) : vcCW P hn od n (.label l) Q f H ds w = QW Q .normal f H ds (wit _) := (rfl)
@[simp ↓] theorem vcCW_ret  (w : Wit (hn, od, n, Code.ret, Q, f, H, ds)) : vcCW P hn od n .ret Q f H ds w = QW Q .ret f H ds (wit _) := (rfl)
end
def idxAddrV (P : Program) (H : List Blk) (t : TypeId) (x i : AV) (k : AV → Prop) (_ : Wit k) : Prop :=
  match arOf P t with
  | some ar => bindO (szOf P ar.2) fun sz => bindO (intA i) fun n => idxA H ar.1 sz x n k
  | none => bindO (elOf P t) fun e => bindO (szOf P e) fun sz => bindO (intA i) fun n => idxV H sz x n k
def idxValV (P : Program) (t : TypeId) (x i : AV) (k : AV → Prop) (_ : Wit k) : Prop :=
  match arOf P t with
  | some ar => bindO (szOf P ar.2) fun sz => bindO (aggOf P ar.2) fun agg => bindO (intA i) fun n => bindO (idxVal x agg ar.1 sz n) k
  | none => andV (lkOf P t = 2) (bindO (strA x) fun s => bindO (intA i) fun n => andV (0 ≤ n) (bindO (s.data.toList[n.toNat]?) fun b => k (.v (.int .u8 b.toNat))))
def slNilW (x : AV) (k : Bool → Prop) (_ : Wit k) : Prop := slNil x k
theorem slNilW_vs {sz : Nat} {es : List (List AV)} {k : Bool → Prop} {w : Wit k} (h1 : es ≠ [] → k false) (h2 : es = [] → k true ∧ k false) : slNilW (.vs sz es) k w := ⟨h1, h2⟩
@[simp] theorem eqOp_eql : eqOp .eql = true := (rfl)
@[simp] theorem eqVal_eql (b : Bool) : eqVal .eql b = b := (rfl)
def binV (P : Program) (op : BinOp) (t : TypeId) (c : Bool) (ns : Bool) (x y : AV) (k : AV → Prop) (_ : Wit k) : Prop :=
  if isNum x then bindO (binA2 op x y) k else if (ns && isNilSl y) = true then andV (eqOp op = true ∧ (elOf P t).isSome = true) (slNil x fun b => k (.v (.bool (eqVal op b)))) else andV (nnB x y c = true) (bindO (binE P op t x y) k)
@[simp] theorem nilSlC_tmp (t : Nat) : nilSlC (.tmp t) = false := (rfl)
@[simp] theorem nilSlC_nil : nilSlC (.const (.slice none 0 0)) = true := (rfl)
@[simp] theorem nilSlC_int (k : IntKind) (n : Int) : nilSlC (.const (.int k n)) = false := (rfl)
@[simp] theorem nilSlC_ptr (b : Option Addr) : nilSlC (.const (.pointer b)) = false := (rfl)
@[simp] theorem nilSlC_nf : nilSlC (.const .nilFunc) = false := (rfl)
@[simp] theorem binV_slvs (P : Program) (op : BinOp) (t : TypeId) (c : Bool) (sz : Nat) (es : List (List AV)) (K : AV → Prop) (w : Wit K) : binV P op t c true (.vs sz es) (.v (.slice none 0 0)) K w = andVW (eqOp op = true ∧ (elOf P t).isSome = true) (slNilW (.vs sz es) (fun b => bindVW (.v (.bool (eqVal op b))) K (wit _)) (wit _)) (wit _) := (rfl)
@[simp] theorem binV_slbs (P : Program) (op : BinOp) (t : TypeId) (c : Bool) (h off n : Nat) (K : AV → Prop) (w : Wit K) : binV P op t c true (.bs h off n) (.v (.slice none 0 0)) K w = andVW (eqOp op = true ∧ (elOf P t).isSome = true) (bindVW (.v (.bool (eqVal op false))) K (wit _)) (wit _) := (rfl)
def bsV (H : List Blk) (hn : Nat → Bool) (dst : Option Tmp) (sl : TypeId × Nat × List Value × Nat) (es : List (List AV)) (len : Nat) (K : AV → List Blk → Prop) (_ : Wit (hn, K)) : Prop :=
  if hn (dst.getD 0) then andV (es.flatten.all AV.one = true) (K (.hs H.length 0 len len) (H ++ [.row sl.1 sl.2.1 es]))
  else andV (es.flatten.all AV.frzB = true ∧ es.flatten.all AV.one = true) (K (bsR (hn (dst.getD 0 + 1000000)) sl.2.1 es) H)
def apV (H : List Blk) (hn : Nat → Bool) (dst : Option Tmp) (sl : TypeId × Nat × List Value × Nat) (s x : AV) (K : AV → List Blk → Prop) (_ : Wit (hn, K)) : Prop :=
  if hn (dst.getD 0) then andV (sl.2.2.1.all Value.oneCell' = true) (bindO (srcEs H sl.2.1 x) fun ys => appendV H sl s ys K) else appFz s x sl fun r => K r H
theorem idxAddrV_ar {P : Program} {t : TypeId} {ar : Nat × TypeId} (h : arOf P t = some ar) (H : List Blk) (x i : AV) (k : AV → Prop) (w : Wit k) : idxAddrV P H t x i k w = bindOW (szOf P ar.2) (fun sz => bindOW (intA i) (fun n => idxAW H ar.1 sz x n k (wit _)) (wit _)) (wit _) := by simp only [idxAddrV, h]; rfl
def sliV (P : Program) (H : List Blk) (t : TypeId) (x : AV) (lo hi : Option AV) (k : AV → Prop) (_ : Wit k) : Prop :=
  match arpOf P t with
  | some ar => bindO (szOf P ar.2) fun sz => bindO (optI lo) fun l => bindO (optI hi) fun hh => sliceA ar.1 sz x l hh k
  | none => bindO (elOf P t) fun e => bindO (szOf P e) fun sz => bindO (optI lo) fun l => bindO (optI hi) fun hh => sliceV H sz x l hh k
theorem sliV_sl {P : Program} {t : TypeId} {e : TypeId} (h : elOf P t = some e) (H : List Blk) (x : AV) (lo hi : Option AV) (k : AV → Prop) (w : Wit k) : sliV P H t x lo hi k w = bindOW (szOf P e) (fun sz => bindOW (optI lo) (fun l => bindOW (optI hi) (fun hh => sliceVW H sz x l hh k (wit _)) (wit _)) (wit _)) (wit _) := by
  have h2 : arpOf P t = none := by unfold elOf at h; unfold arpOf; split at h <;> simp_all
  simp only [sliV, h2, h]; simp [bindO, bindOW, sliceVW]
theorem sliV_ar {P : Program} {t : TypeId} {ar : Nat × TypeId} (h : arpOf P t = some ar) (H : List Blk) (x : AV) (lo hi : Option AV) (k : AV → Prop) (w : Wit k) : sliV P H t x lo hi k w = bindOW (szOf P ar.2) (fun sz => bindOW (optI lo) (fun l => bindOW (optI hi) (fun hh => sliceAW ar.1 sz x l hh k (wit _)) (wit _)) (wit _)) (wit _) := by simp only [sliV, h]; rfl
theorem idxAddrV_sl {P : Program} {t : TypeId} {e : TypeId} (h : elOf P t = some e) (H : List Blk) (x i : AV) (k : AV → Prop) (w : Wit k) : idxAddrV P H t x i k w = bindOW (szOf P e) (fun sz => bindOW (intA i) (fun n => idxVW H sz x n k (wit _)) (wit _)) (wit _) := by
  have h2 : arOf P t = none := by unfold elOf at h; unfold arOf; split at h <;> simp_all
  simp only [idxAddrV, h2, h]; simp [bindO, bindOW, idxVW]
theorem idxValV_str {P : Program} {t : TypeId} (h : lkOf P t = 2) (x i : AV) (k : AV → Prop) (w : Wit k) : idxValV P t x i k w = bindOW (strA x) (fun s => bindOW (intA i) (fun n => andVW (0 ≤ n) (bindOW (s.data.toList[n.toNat]?) (fun b => k (.v (.int .u8 b.toNat))) (wit _)) (wit _)) (wit _)) (wit _) := by
  have h2 : arOf P t = none := by unfold lkOf at h; unfold arOf; split at h <;> simp_all
  simp only [idxValV, h2, h]; simp [andV, bindOW, andVW]
@[simp] theorem bsV_own {H : List Blk} {hn : Nat → Bool} {d : Tmp} (h : hn d = true) (sl : TypeId × Nat × List Value × Nat) (es : List (List AV)) (len : Nat) (K : AV → List Blk → Prop) (w : Wit (hn, K)) : bsV H hn (some d) sl es len K w = andVW (es.flatten.all AV.one = true) (bindHW (H ++ [.row sl.1 sl.2.1 es]) (fun H' => K (.hs H.length 0 len len) H') (wit _)) (wit _) := by simp [bsV, h]; rfl
@[simp] theorem bsV_fz {H : List Blk} {hn : Nat → Bool} {d : Tmp} (h : hn d = false) (sl : TypeId × Nat × List Value × Nat) (es : List (List AV)) (len : Nat) (K : AV → List Blk → Prop) (w : Wit (hn, K)) : bsV H hn (some d) sl es len K w = andVW (es.flatten.all AV.frzB = true ∧ es.flatten.all AV.one = true) (bindVW (bsR (hn (d + 1000000)) sl.2.1 es) (fun a => K a H) (wit _)) (wit _) := by simp [bsV, h]; rfl
@[simp] theorem apV_own {H : List Blk} {hn : Nat → Bool} {d : Tmp} (h : hn d = true) (sl : TypeId × Nat × List Value × Nat) (s x : AV) (K : AV → List Blk → Prop) (w : Wit (hn, K)) : apV H hn (some d) sl s x K w = andVW (sl.2.2.1.all Value.oneCell' = true) (bindOW (srcEs H sl.2.1 x) (fun ys => appendVW H sl s ys K (wit _)) (wit _)) (wit _) := by simp [apV, h]; rfl
@[simp] theorem apV_fz {H : List Blk} {hn : Nat → Bool} {d : Tmp} (h : hn d = false) (sl : TypeId × Nat × List Value × Nat) (s x : AV) (K : AV → List Blk → Prop) (w : Wit (hn, K)) : apV H hn (some d) sl s x K w = appFzW s x sl (fun r => bindVW r (fun r => K r H) (wit _)) (wit _) := by simp [apV, h]; rfl
@[simp] theorem binV_int (P : Program) (op : BinOp) (t : TypeId) (c ns : Bool) (k k' : IntKind) (a b : Int) (K : AV → Prop) (w : Wit K) : binV P op t c ns (.v (.int k a)) (.v (.int k' b)) K w = bindOW (binA2 op (.v (.int k a)) (.v (.int k' b))) K (wit _) := (rfl)
@[simp] theorem binV_str (P : Program) (op : BinOp) (t : TypeId) (c ns : Bool) (a b : ByteArray) (K : AV → Prop) (w : Wit K) : binV P op t c ns (.v (.string a)) (.v (.string b)) K w = bindOW (binA2 op (.v (.string a)) (.v (.string b))) K (wit _) := (rfl)
@[simp] theorem binV_agg (P : Program) (op : BinOp) (t : TypeId) (c ns : Bool) (a b : List AV) (K : AV → Prop) (w : Wit K) : binV P op t c ns (.agg a) (.agg b) K w = bindOW (binE P op t (.agg a) (.agg b)) K (wit _) := by simp [binV, isNum, isNilSl, nnB, andV]; rfl
@[simp] theorem binV_bool (P : Program) (op : BinOp) (t : TypeId) (c ns : Bool) (a b : Bool) (K : AV → Prop) (w : Wit K) : binV P op t c ns (.v (.bool a)) (.v (.bool b)) K w = bindOW (binE P op t (.v (.bool a)) (.v (.bool b))) K (wit _) := by simp [binV, isNum, isNilSl, nnB, andV]; rfl
@[simp] theorem constB_const (x : Value) : constB (.const x) = true := (rfl)
@[simp] theorem constB_tmp (t : Nat) : constB (.tmp t) = false := (rfl)
@[simp] theorem isShift_add : isShift .add = false := (rfl)
@[simp] theorem isShift_sub : isShift .sub = false := (rfl)
@[simp] theorem isShift_mul : isShift .mul = false := (rfl)
@[simp] theorem isShift_quo : isShift .quo = false := (rfl)
@[simp] theorem isShift_rem : isShift .rem = false := (rfl)
@[simp] theorem isShift_and : isShift .and = false := (rfl)
@[simp] theorem isShift_or : isShift .or = false := (rfl)
@[simp] theorem isShift_xor : isShift .xor = false := (rfl)
@[simp] theorem isShift_andNot : isShift .andNot = false := (rfl)
@[simp] theorem isShift_eql : isShift .eql = false := (rfl)
@[simp] theorem isShift_neq : isShift .neq = false := (rfl)
@[simp] theorem isShift_lss : isShift .lss = false := (rfl)
@[simp] theorem isShift_leq : isShift .leq = false := (rfl)
@[simp] theorem isShift_gtr : isShift .gtr = false := (rfl)
@[simp] theorem isShift_geq : isShift .geq = false := (rfl)
@[simp] theorem isShift_shl : isShift .shl = true := (rfl)
@[simp] theorem isShift_shr : isShift .shr = true := (rfl)
@[simp] theorem binA2_int (op : BinOp) (k : IntKind) (a b : Int) (h : isShift op = false) : binA2 op (.v (.int k a)) (.v (.int k b)) = (binI op k a b).map .v := by simp [binA2, h]
@[simp] theorem binA2_shift (op : BinOp) (k k' : IntKind) (a b : Int) (h : isShift op = true) : binA2 op (.v (.int k a)) (.v (.int k' b)) = (binI op k a b).map .v := by simp [binA2, h]
@[simp] theorem binA2_str (op : BinOp) (a b : ByteArray) : binA2 op (.v (.string a)) (.v (.string b)) = (binS op a b).map .v := (rfl)
@[simp] theorem binI_add (k : IntKind) (a b : Int) : binI .add k a b = some (.int k (k.wrap (a + b))) := (rfl)
@[simp] theorem binI_sub (k : IntKind) (a b : Int) : binI .sub k a b = some (.int k (k.wrap (a - b))) := (rfl)
@[simp] theorem binI_mul (k : IntKind) (a b : Int) : binI .mul k a b = some (.int k (k.wrap (a * b))) := (rfl)
@[simp] theorem binI_eql (k : IntKind) (a b : Int) : binI .eql k a b = some (.bool (a == b)) := (rfl)
@[simp] theorem binI_neq (k : IntKind) (a b : Int) : binI .neq k a b = some (.bool (a != b)) := (rfl)
@[simp] theorem binI_lss (k : IntKind) (a b : Int) : binI .lss k a b = some (.bool (decide (a < b))) := (rfl)
@[simp] theorem binI_leq (k : IntKind) (a b : Int) : binI .leq k a b = some (.bool (decide (a ≤ b))) := (rfl)
@[simp] theorem binI_gtr (k : IntKind) (a b : Int) : binI .gtr k a b = some (.bool (decide (a > b))) := (rfl)
@[simp] theorem binI_geq (k : IntKind) (a b : Int) : binI .geq k a b = some (.bool (decide (a ≥ b))) := (rfl)
@[simp] theorem binI_quo (k : IntKind) (a b : Int) : binI .quo k a b = if b = 0 then none else some (.int k (k.wrap (a.tdiv b))) := (rfl)
@[simp] theorem binI_rem (k : IntKind) (a b : Int) : binI .rem k a b = if b = 0 then none else some (.int k (a.tmod b)) := (rfl)
@[simp] theorem binI_shl (k : IntKind) (a b : Int) : binI .shl k a b = if b < 0 then none else some (.int k (k.wrap (a * 2 ^ (min b.toNat k.bits)))) := (rfl)
@[simp] theorem binI_shr (k : IntKind) (a b : Int) : binI .shr k a b = if b < 0 then none else some (.int k (a.fdiv (2 ^ (min b.toNat k.bits)))) := (rfl)
@[simp] theorem binI_and (k : IntKind) (a b : Int) : binI .and k a b = some (.int k (k.wrap ((BitVec.ofInt k.bits a &&& BitVec.ofInt k.bits b).toNat))) := (rfl)
@[simp] theorem binI_or (k : IntKind) (a b : Int) : binI .or k a b = some (.int k (k.wrap ((BitVec.ofInt k.bits a ||| BitVec.ofInt k.bits b).toNat))) := (rfl)
@[simp] theorem binI_xor (k : IntKind) (a b : Int) : binI .xor k a b = some (.int k (k.wrap ((BitVec.ofInt k.bits a ^^^ BitVec.ofInt k.bits b).toNat))) := (rfl)
@[simp] theorem binS_eql (a b : ByteArray) : binS .eql a b = some (.bool (a.toList == b.toList)) := (rfl)
@[simp] theorem intA_int (k : IntKind) (n : Int) : intA (.v (.int k n)) = some n := (rfl)
@[simp] theorem avCells_agg (cs : List AV) : avCells (.agg cs) = some cs := (rfl)
@[simp] theorem avCells_int (k : IntKind) (n : Int) : avCells (.v (.int k n)) = some [.v (.int k n)] := (rfl)
@[simp] theorem avCells_bool (b : Bool) : avCells (.v (.bool b)) = some [.v (.bool b)] := (rfl)
@[simp] theorem avCells_ptr (a : Option Addr) : avCells (.v (.pointer a)) = some [.v (.pointer a)] := (rfl)
@[simp] theorem avCells_vs (z : Nat) (es : List (List AV)) : avCells (.vs z es) = some [.vs z es] := (rfl)
@[simp] theorem avCells_bp (k o : Nat) : avCells (.bp k o) = some [.bp k o] := (rfl)
@[simp] theorem avCells_hs (k a b o : Nat) : avCells (.hs k a b o) = some [.hs k a b o] := (rfl)
@[simp] theorem avCells_hm (k : Nat) : avCells (.hm k) = some [.hm k] := (rfl)
@[simp] theorem avCells_fn (g : Fn) (a b : List AV) : avCells (.fn g a b) = some [.fn g a b] := (rfl)
@[simp] theorem one_int (k : IntKind) (n : Int) : AV.one (.v (.int k n)) = true := (rfl)
@[simp] theorem one_bool (b : Bool) : AV.one (.v (.bool b)) = true := (rfl)
@[simp] theorem one_string (b : ByteArray) : AV.one (.v (.string b)) = true := (rfl)
@[simp] theorem one_slice (a : Option Addr) (l c : Nat) : AV.one (.v (.slice a l c)) = true := (rfl)
@[simp] theorem one_ptr (a : Option Addr) : AV.one (.v (.pointer a)) = true := (rfl)
@[simp] theorem one_vs (z : Nat) (es : List (List AV)) : AV.one (.vs z es) = true := (rfl)
@[simp] theorem one_bp (k o : Nat) : AV.one (.bp k o) = true := (rfl)
@[simp] theorem frzB_v (x : Value) : AV.frzB (.v x) = true := (rfl)
@[simp] theorem frzB_vs (z : Nat) (es : List (List AV)) : AV.frzB (.vs z es) = true := (rfl)
@[simp] theorem oneCell_int (k : IntKind) (n : Int) : Value.oneCell' (.int k n) = true := (rfl)
@[simp] theorem oneCell_bool (b : Bool) : Value.oneCell' (.bool b) = true := (rfl)
@[simp] theorem oneCell_string (b : ByteArray) : Value.oneCell' (.string b) = true := (rfl)
@[simp] theorem oneCell_slice (a : Option Addr) (l c : Nat) : Value.oneCell' (.slice a l c) = true := (rfl)
@[simp] theorem cells_agg (cs : Array Value) : Value.cells (.agg cs) = cs := (rfl)
@[simp] theorem cells_int (k : IntKind) (n : Int) : Value.cells (.int k n) = #[.int k n] := (rfl)
@[simp] theorem cells_bool (b : Bool) : Value.cells (.bool b) = #[.bool b] := (rfl)
@[simp] theorem cells_ptr (a : Option Addr) : Value.cells (.pointer a) = #[.pointer a] := (rfl)
@[simp] theorem aload_t (sz : Nat) (cs : List AV) : aload true sz cs = if sz ≤ cs.length then some (.agg (cs.take sz)) else none := (rfl)
@[simp] theorem aload_f (sz : Nat) (cs : List AV) : aload false sz cs = cs[0]? := (rfl)
@[simp] theorem padd_bp (k off n : Nat) : padd (.bp k off) n = some (.bp k (off + n)) := (rfl)
@[simp] theorem padd_vp (cs : List AV) (n : Nat) : padd (.vp cs) n = some (.vp (cs.drop n)) := (rfl)
@[simp] theorem cellsAt_vp (H : List Blk) (cs : List AV) : cellsAt H (.vp cs) = some cs := (rfl)
@[simp] theorem cellsAt_bp (H : List Blk) (k off : Nat) : cellsAt H (.bp k off) = (match H[k]? with | some (.box _ cs) => some (cs.drop off) | _ => none) := (rfl)
@[simp] theorem cellsAt_rp (H : List Blk) (k v i off : Nat) : cellsAt H (.rp k v i off) = (match H[k]? with | some (.row _ _ es) => if es.length = v then (es[i]?).map (·.drop off) else none | _ => none) := (rfl)
@[simp] theorem astore_bp (H : List Blk) (k off : Nat) (xs : List AV) : astore H (.bp k off) xs = (match H[k]? with | some (.box t cs) => if off + xs.length ≤ cs.length then some (H.set k (.box t (spl cs off xs))) else none | _ => none) := (rfl)
@[simp] theorem spl_zero_full {α : Type} (cs xs : List α) : spl cs 0 xs = xs ++ cs.drop xs.length := by simp [spl]
@[simp] theorem spl_succ {α : Type} (c : α) (cs xs : List α) (n : Nat) : spl (c :: cs) (n + 1) xs = c :: spl cs n xs := by
  simp only [spl, List.take_succ_cons, List.cons_append, Nat.add_right_comm n 1, List.drop_succ_cons]
@[simp] theorem unA_not (b : Bool) : unA .not (.v (.bool b)) = some (.v (.bool !b)) := (rfl)
@[simp] theorem unA_neg (k : IntKind) (n : Int) : unA .neg (.v (.int k n)) = some (.v (.int k (k.wrap (0 - n)))) := (rfl)
@[simp] theorem tupGet_tup (xs : List AV) (i : Nat) : tupGet (.tup xs) i = xs[i]? := (rfl)
@[simp] theorem lenV_vs (H : List Blk) (z : Nat) (es : List (List AV)) : lenV H 1 (.vs z es) = some es.length := (rfl)
@[simp] theorem lenV_nil (H : List Blk) (a : Option Addr) (n c : Nat) : lenV H 1 (.v (.slice a n c)) = some n := (rfl)
@[simp] theorem lenV_str (H : List Blk) (s : ByteArray) : lenV H 2 (.v (.string s)) = some s.size := (rfl)
@[simp] theorem lenV_hm (H : List Blk) (h : Nat) : lenV H 3 (.hm h) = (match H[h]? with | some (.map es) => some (es.length : Int) | _ => none) := (rfl)
@[simp] theorem strA_s (s : ByteArray) : strA (.v (.string s)) = some s := (rfl)
@[simp] theorem keyA_v (x : Value) : keyA (.v x) = some x := (rfl)
@[simp] theorem optI_none : optI none = some none := (rfl)
@[simp] theorem optI_some (a : AV) : optI (some a) = (intA a).map some := (rfl)
@[simp] theorem srcEs_bs (H : List Blk) (sz k o n : Nat) : srcEs H sz (.bs k o n) = (match H[k]? with | some (.box _ cs) => if sz = 1 ∧ o + n ≤ cs.length ∧ cs.all AV.one = true then some (((cs.drop o).take n).map fun c => [c]) else none | _ => none) := (rfl)
@[simp] theorem srcEs_vs (H : List Blk) (sz sz' : Nat) (es : List (List AV)) : srcEs H sz (.vs sz' es) = if sz' = sz then some es else none := (rfl)
@[simp] theorem mapEs_hm (H : List Blk) (h : Nat) : mapEs H (.hm h) = (match H[h]? with | some (.map es) => some es | _ => none) := (rfl)
@[simp] theorem afill_nil (pl : Nat → Option (Nat × Nat)) (cs : List AV) : afill pl cs [] = some cs := (rfl)
@[simp] theorem afill_cons (pl : Nat → Option (Nat × Nat)) (cs : List AV) (i : Nat) (v : AV) (rest : List (Nat × AV)) : afill pl cs ((i, v) :: rest) =
  (match pl i, avCells v with | some (off, sz), some xs => if xs.length = sz ∧ off + sz ≤ cs.length then afill pl (spl cs off xs) rest else none | _, _ => none) := (rfl)
@[simp] theorem afillS_nil (sz : Nat) (es : List (List AV)) : afillS sz es [] = some es := (rfl)
@[simp] theorem afillS_cons (sz : Nat) (es : List (List AV)) (i : Nat) (v : AV) (rest : List (Nat × AV)) : afillS sz es ((i, v) :: rest) =
  (match avCells v with | some xs => if xs.length = sz ∧ i < es.length then afillS sz (es.set i xs) rest else none | none => none) := (rfl)
variable (P : Program) (hn : Nat → Bool) (dr : Bool) (od : Nat → Option OPlan) (Q : AQ) (f : Fr) (H : List Blk) (ds : List ADef) (ops : Array Oper) (rest : List Oper) (dst : Option Tmp) (ty : TypeId) (pos : String) (aft : Array Edge)
@[simp ↓] theorem vcLW_move (x : Operand) (w : Wit (hn, ops, Oper.mk dst (.move x) ty pos aft none :: rest, Q, f, H, ds)) : vcLW P hn dr ops (⟨dst, .move x, ty, pos, aft, none⟩ :: rest) Q f H ds w = (bindVW (evW x f (wit _)) (fun a => vcLW P hn dr ops rest Q (updO f dst a) H ds (wit _)) (wit _)) := (rfl)
@[simp ↓] theorem vcLW_move_g (j : Nat) (want : Bool) (x : Operand) (w : Wit (hn, ops, Oper.mk dst (.move x) ty pos aft (some (j, want)) :: rest, Q, f, H, ds)) : vcLW P hn dr ops (⟨dst, .move x, ty, pos, aft, some (j, want)⟩ :: rest) Q f H ds w = guardVW (fW (gdW j ops (wit _)) f (wit _)) want (bindVW (evW x f (wit _)) (fun a => vcLW P hn dr ops rest Q (updO f dst a) H ds (wit _)) (wit _)) (vcLW P hn dr ops rest Q (updO f dst (.tup [])) H ds (wit _)) (wit _) (wit _) := (rfl)
@[simp ↓] theorem vcLW_assign (x : Operand) (w : Wit (hn, ops, Oper.mk dst (.assign x) ty pos aft none :: rest, Q, f, H, ds)) : vcLW P hn dr ops (⟨dst, .assign x, ty, pos, aft, none⟩ :: rest) Q f H ds w = (bindVW (evW x f (wit _)) (fun a => vcLW P hn dr ops rest Q (updO f dst a) H ds (wit _)) (wit _)) := (rfl)
@[simp ↓] theorem vcLW_pick (c a b : Operand) (w : Wit (hn, ops, Oper.mk dst (.pick c a b) ty pos aft none :: rest, Q, f, H, ds)) : vcLW P hn dr ops (⟨dst, .pick c a b, ty, pos, aft, none⟩ :: rest) Q f H ds w = (condVW (evW c f (wit _)) (bindVW (evW a f (wit _)) (fun a => vcLW P hn dr ops rest Q (updO f dst a) H ds (wit _)) (wit _)) (bindVW (evW b f (wit _)) (fun a => vcLW P hn dr ops rest Q (updO f dst a) H ds (wit _)) (wit _)) (wit _) (wit _)) := (rfl)
@[simp ↓] theorem vcLW_pick_g (j : Nat) (want : Bool) (c a b : Operand) (w : Wit (hn, ops, Oper.mk dst (.pick c a b) ty pos aft (some (j, want)) :: rest, Q, f, H, ds)) : vcLW P hn dr ops (⟨dst, .pick c a b, ty, pos, aft, some (j, want)⟩ :: rest) Q f H ds w = guardVW (fW (gdW j ops (wit _)) f (wit _)) want (condVW (evW c f (wit _)) (bindVW (evW a f (wit _)) (fun a => vcLW P hn dr ops rest Q (updO f dst a) H ds (wit _)) (wit _)) (bindVW (evW b f (wit _)) (fun a => vcLW P hn dr ops rest Q (updO f dst a) H ds (wit _)) (wit _)) (wit _) (wit _)) (vcLW P hn dr ops rest Q (updO f dst (.tup [])) H ds (wit _)) (wit _) (wit _) := (rfl)
@[simp ↓] theorem vcLW_alloc (t : TypeId) (w : Wit (hn, ops, Oper.mk dst (.alloc t) ty pos aft none :: rest, Q, f, H, ds)) : vcLW P hn dr ops (⟨dst, .alloc t, ty, pos, aft, none⟩ :: rest) Q f H ds w = (bindOW (zeroOf P t) (fun z => bindHW (H ++ [.box t (z.cells.toList.map .v)]) (fun H' => vcLW P hn dr ops rest Q (updO f dst (.bp H.length 0)) H' ds (wit _)) (wit _)) (wit _)) := (rfl)
@[simp ↓] theorem vcLW_box (t : TypeId) (x : Operand) (w : Wit (hn, ops, Oper.mk dst (.box t x) ty pos aft none :: rest, Q, f, H, ds)) : vcLW P hn dr ops (⟨dst, .box t x, ty, pos, aft, none⟩ :: rest) Q f H ds w = (bindOW (avCells (evW x f (wit _))) (fun cs => bindHW (H ++ [.box t cs]) (fun H' => vcLW P hn dr ops rest Q (updO f dst (.bp H.length 0)) H' ds (wit _)) (wit _)) (wit _)) := (rfl)
@[simp ↓] theorem vcLW_load (t : TypeId) (x : Operand) (w : Wit (hn, ops, Oper.mk dst (.load t x) ty pos aft none :: rest, Q, f, H, ds)) : vcLW P hn dr ops (⟨dst, .load t x, ty, pos, aft, none⟩ :: rest) Q f H ds w = (bindOW (cellsAt H (evW x f (wit _))) (fun cs => bindOW (szOf P t) (fun sz => bindOW (aggOf P t) (fun b => bindOW (aload b sz cs) (fun r => vcLW P hn dr ops rest Q (updO f dst r) H ds (wit _)) (wit _)) (wit _)) (wit _)) (wit _)) := (rfl)
@[simp ↓] theorem vcLW_load_g (j : Nat) (want : Bool) (t : TypeId) (x : Operand) (w : Wit (hn, ops, Oper.mk dst (.load t x) ty pos aft (some (j, want)) :: rest, Q, f, H, ds)) : vcLW P hn dr ops (⟨dst, .load t x, ty, pos, aft, some (j, want)⟩ :: rest) Q f H ds w = guardVW (fW (gdW j ops (wit _)) f (wit _)) want (bindOW (cellsAt H (evW x f (wit _))) (fun cs => bindOW (szOf P t) (fun sz => bindOW (aggOf P t) (fun b => bindOW (aload b sz cs) (fun r => vcLW P hn dr ops rest Q (updO f dst r) H ds (wit _)) (wit _)) (wit _)) (wit _)) (wit _)) (vcLW P hn dr ops rest Q (updO f dst (.tup [])) H ds (wit _)) (wit _) (wit _) := (rfl)
@[simp ↓] theorem vcLW_store (t : TypeId) (a x : Operand) (w : Wit (hn, ops, Oper.mk dst (.store t a x) ty pos aft none :: rest, Q, f, H, ds)) : vcLW P hn dr ops (⟨dst, .store t a x, ty, pos, aft, none⟩ :: rest) Q f H ds w = (bindOW (avCells (evW x f (wit _))) (fun xs => andVW (szOf P t = some xs.length ∧ xs.all AV.one = true) (bindOW (astore H (evW a f (wit _)) xs) (fun H' => vcLW P hn dr ops rest Q (updO f dst (.tup [])) H' ds (wit _)) (wit _)) (wit _)) (wit _)) := (rfl)
@[simp ↓] theorem vcLW_fieldAddr (s : TypeId) (x : Operand) (i : Nat) (w : Wit (hn, ops, Oper.mk dst (.fieldAddr s x i) ty pos aft none :: rest, Q, f, H, ds)) : vcLW P hn dr ops (⟨dst, .fieldAddr s x i, ty, pos, aft, none⟩ :: rest) Q f H ds w = (bindOW (fldOf P s i) (fun fl => bindOW (cellsAt H (evW x f (wit _))) (fun _ => andVW (fl.2.1 ≠ 0) (bindOW (padd (evW x f (wit _)) fl.1) (fun p => vcLW P hn dr ops rest Q (updO f dst p) H ds (wit _)) (wit _)) (wit _)) (wit _)) (wit _)) := (rfl)
@[simp ↓] theorem vcLW_fieldAddr_g (j : Nat) (want : Bool) (s : TypeId) (x : Operand) (i : Nat) (w : Wit (hn, ops, Oper.mk dst (.fieldAddr s x i) ty pos aft (some (j, want)) :: rest, Q, f, H, ds)) : vcLW P hn dr ops (⟨dst, .fieldAddr s x i, ty, pos, aft, some (j, want)⟩ :: rest) Q f H ds w = guardVW (fW (gdW j ops (wit _)) f (wit _)) want (bindOW (fldOf P s i) (fun fl => bindOW (cellsAt H (evW x f (wit _))) (fun _ => andVW (fl.2.1 ≠ 0) (bindOW (padd (evW x f (wit _)) fl.1) (fun p => vcLW P hn dr ops rest Q (updO f dst p) H ds (wit _)) (wit _)) (wit _)) (wit _)) (wit _)) (vcLW P hn dr ops rest Q (updO f dst (.tup [])) H ds (wit _)) (wit _) (wit _) := (rfl)
@[simp ↓] theorem vcLW_slice (t : TypeId) (x : Operand) (lo hi : Option Operand) (w : Wit (hn, ops, Oper.mk dst (.slice t x lo hi none) ty pos aft none :: rest, Q, f, H, ds)) : vcLW P hn dr ops (⟨dst, .slice t x lo hi none, ty, pos, aft, none⟩ :: rest) Q f H ds w = (sliV P H t (evW x f (wit _)) (lo.map fun x => evW x f (wit _)) (hi.map fun x => evW x f (wit _)) (fun r => bindVW (r) (fun r => vcLW P hn dr ops rest Q (updO f dst r) H ds (wit _)) (wit _)) (wit _)) := (rfl)
@[simp ↓] theorem vcLW_slice_g (j : Nat) (want : Bool) (t : TypeId) (x : Operand) (lo hi : Option Operand) (w : Wit (hn, ops, Oper.mk dst (.slice t x lo hi none) ty pos aft (some (j, want)) :: rest, Q, f, H, ds)) : vcLW P hn dr ops (⟨dst, .slice t x lo hi none, ty, pos, aft, some (j, want)⟩ :: rest) Q f H ds w = guardVW (fW (gdW j ops (wit _)) f (wit _)) want (sliV P H t (evW x f (wit _)) (lo.map fun x => evW x f (wit _)) (hi.map fun x => evW x f (wit _)) (fun r => bindVW (r) (fun r => vcLW P hn dr ops rest Q (updO f dst r) H ds (wit _)) (wit _)) (wit _)) (vcLW P hn dr ops rest Q (updO f dst (.tup [])) H ds (wit _)) (wit _) (wit _) := (rfl)
@[simp ↓] theorem vcLW_makeSlice (t : TypeId) (ln cp : Operand) (w : Wit (hn, ops, Oper.mk dst (.makeSlice t ln cp) ty pos aft none :: rest, Q, f, H, ds)) : vcLW P hn dr ops (⟨dst, .makeSlice t ln cp, ty, pos, aft, none⟩ :: rest) Q f H ds w = (bindOW (slbOf P t) (fun sl => bindOW (intA (evW ln f (wit _))) (fun n => bindOW (intA (evW cp f (wit _))) (fun c => andVW (0 ≤ n ∧ n ≤ c ∧ (sl.2.2.2 : Int) * c ≤ 281474976710656 ∧ c ≤ 9223372036854775807 ∧ sl.2.2.1.all Value.oneCell' = true) (bindHW (H ++ [.row sl.1 sl.2.1 (List.replicate n.toNat (sl.2.2.1.map .v))]) (fun H' => bindVW (.hs H.length 0 n.toNat n.toNat) (fun r => vcLW P hn dr ops rest Q (updO f dst r) H' ds (wit _)) (wit _)) (wit _)) (wit _)) (wit _)) (wit _)) (wit _)) := (rfl)
@[simp ↓] theorem vcLW_unOp (op : UnOp) (t : TypeId) (x : Operand) (w : Wit (hn, ops, Oper.mk dst (.unOp op t x) ty pos aft none :: rest, Q, f, H, ds)) : vcLW P hn dr ops (⟨dst, .unOp op t x, ty, pos, aft, none⟩ :: rest) Q f H ds w = (bindOW (unA op (evW x f (wit _))) (fun r => vcLW P hn dr ops rest Q (updO f dst r) H ds (wit _)) (wit _)) := (rfl)
@[simp ↓] theorem vcLW_unOp_g (j : Nat) (want : Bool) (op : UnOp) (t : TypeId) (x : Operand) (w : Wit (hn, ops, Oper.mk dst (.unOp op t x) ty pos aft (some (j, want)) :: rest, Q, f, H, ds)) : vcLW P hn dr ops (⟨dst, .unOp op t x, ty, pos, aft, some (j, want)⟩ :: rest) Q f H ds w = guardVW (fW (gdW j ops (wit _)) f (wit _)) want (bindOW (unA op (evW x f (wit _))) (fun r => vcLW P hn dr ops rest Q (updO f dst r) H ds (wit _)) (wit _)) (vcLW P hn dr ops rest Q (updO f dst (.tup [])) H ds (wit _)) (wit _) (wit _) := (rfl)
@[simp ↓] theorem vcLW_convert (s t : TypeId) (x : Operand) (w : Wit (hn, ops, Oper.mk dst (.convert s t x) ty pos aft none :: rest, Q, f, H, ds)) : vcLW P hn dr ops (⟨dst, .convert s t x, ty, pos, aft, none⟩ :: rest) Q f H ds w = (convW P s t (kOf P t) (evW x f (wit _)) (fun r => bindVW (r) (fun r => vcLW P hn dr ops rest Q (updO f dst r) H ds (wit _)) (wit _)) (wit _)) := (rfl)
@[simp ↓] theorem vcLW_convert_g (j : Nat) (want : Bool) (s t : TypeId) (x : Operand) (w : Wit (hn, ops, Oper.mk dst (.convert s t x) ty pos aft (some (j, want)) :: rest, Q, f, H, ds)) : vcLW P hn dr ops (⟨dst, .convert s t x, ty, pos, aft, some (j, want)⟩ :: rest) Q f H ds w = guardVW (fW (gdW j ops (wit _)) f (wit _)) want (convW P s t (kOf P t) (evW x f (wit _)) (fun r => bindVW (r) (fun r => vcLW P hn dr ops rest Q (updO f dst r) H ds (wit _)) (wit _)) (wit _)) (vcLW P hn dr ops rest Q (updO f dst (.tup [])) H ds (wit _)) (wit _) (wit _) := (rfl)
@[simp ↓] theorem vcLW_nilCheck (x : Operand) (w : Wit (hn, ops, Oper.mk dst (.nilCheck x) ty pos aft none :: rest, Q, f, H, ds)) : vcLW P hn dr ops (⟨dst, .nilCheck x, ty, pos, aft, none⟩ :: rest) Q f H ds w = (bindOW (cellsAt H (evW x f (wit _))) (fun _ => bindVW (evW x f (wit _)) (fun a => vcLW P hn dr ops rest Q (updO f dst a) H ds (wit _)) (wit _)) (wit _)) := (rfl)
@[simp ↓] theorem vcLW_nilCheck_g (j : Nat) (want : Bool) (x : Operand) (w : Wit (hn, ops, Oper.mk dst (.nilCheck x) ty pos aft (some (j, want)) :: rest, Q, f, H, ds)) : vcLW P hn dr ops (⟨dst, .nilCheck x, ty, pos, aft, some (j, want)⟩ :: rest) Q f H ds w = guardVW (fW (gdW j ops (wit _)) f (wit _)) want (bindOW (cellsAt H (evW x f (wit _))) (fun _ => bindVW (evW x f (wit _)) (fun a => vcLW P hn dr ops rest Q (updO f dst a) H ds (wit _)) (wit _)) (wit _)) (vcLW P hn dr ops rest Q (updO f dst (.tup [])) H ds (wit _)) (wit _) (wit _) := (rfl)
@[simp ↓] theorem vcLW_extract (x : Operand) (i : Nat) (w : Wit (hn, ops, Oper.mk dst (.extract x i) ty pos aft none :: rest, Q, f, H, ds)) : vcLW P hn dr ops (⟨dst, .extract x i, ty, pos, aft, none⟩ :: rest) Q f H ds w = (bindOW (tupGet (evW x f (wit _)) i) (fun r => vcLW P hn dr ops rest Q (updO f dst r) H ds (wit _)) (wit _)) := (rfl)
@[simp ↓] theorem vcLW_build (t : TypeId) (l : List (Nat × Operand)) (w : Wit (hn, ops, Oper.mk dst (.build t l.toArray) ty pos aft none :: rest, Q, f, H, ds)) : vcLW P hn dr ops (⟨dst, .build t l.toArray, ty, pos, aft, none⟩ :: rest) Q f H ds w = (bindOW (bldOf P t) (fun zp => bindOW (afill (fun i => zp.2[i]?) (zp.1.map .v) (evp l f (wit _))) (fun cs => vcLW P hn dr ops rest Q (updO f dst (.agg cs)) H ds (wit _)) (wit _)) (wit _)) := (rfl)
@[simp ↓] theorem vcLW_build_g (j : Nat) (want : Bool) (t : TypeId) (l : List (Nat × Operand)) (w : Wit (hn, ops, Oper.mk dst (.build t l.toArray) ty pos aft (some (j, want)) :: rest, Q, f, H, ds)) : vcLW P hn dr ops (⟨dst, .build t l.toArray, ty, pos, aft, some (j, want)⟩ :: rest) Q f H ds w = guardVW (fW (gdW j ops (wit _)) f (wit _)) want (bindOW (bldOf P t) (fun zp => bindOW (afill (fun i => zp.2[i]?) (zp.1.map .v) (evp l f (wit _))) (fun cs => vcLW P hn dr ops rest Q (updO f dst (.agg cs)) H ds (wit _)) (wit _)) (wit _)) (vcLW P hn dr ops rest Q (updO f dst (.tup [])) H ds (wit _)) (wit _) (wit _) := (rfl)
@[simp ↓] theorem vcLW_makeFunc (fn : Fn) (l1 l2 : List Operand) (w : Wit (hn, ops, Oper.mk dst (.makeFunc fn l1.toArray l2.toArray) ty pos aft none :: rest, Q, f, H, ds)) : vcLW P hn dr ops (⟨dst, .makeFunc fn l1.toArray l2.toArray, ty, pos, aft, none⟩ :: rest) Q f H ds w = (bindVW (.fn fn (evs l1 f (wit _)) (evs l2 f (wit _))) (fun a => vcLW P hn dr ops rest Q (updO f dst a) H ds (wit _)) (wit _)) := (rfl)
@[simp ↓] theorem vcLW_makeMap (t : TypeId) (w : Wit (hn, ops, Oper.mk dst (.makeMap t none) ty pos aft none :: rest, Q, f, H, ds)) : vcLW P hn dr ops (⟨dst, .makeMap t none, ty, pos, aft, none⟩ :: rest) Q f H ds w = (bindHW (H ++ [.map []]) (fun H' => vcLW P hn dr ops rest Q (updO f dst (.hm H.length)) H' ds (wit _)) (wit _)) := (rfl)
@[simp ↓] theorem vcLW_lookup (t : TypeId) (x i : Operand) (ok : Bool) (w : Wit (hn, ops, Oper.mk dst (.lookup t x i ok) ty pos aft none :: rest, Q, f, H, ds)) (hm : (mapOf P t).isSome = true) : vcLW P hn dr ops (⟨dst, .lookup t x i ok, ty, pos, aft, none⟩ :: rest) Q f H ds w = (bindOW (mapOf P t) (fun m => bindOW (mapEs H (evW x f (wit _))) (fun es => bindOW (keyA (evW i f (wit _))) (fun k => bindOW (mfind m.1 k es) (fun r => bindVW (if ok then .tup [r.getD (assertV.avZ m.2), .v (.bool r.isSome)] else r.getD (assertV.avZ m.2)) (fun a => vcLW P hn dr ops rest Q (updO f dst a) H ds (wit _)) (wit _)) (wit _)) (wit _)) (wit _)) (wit _)) := by
  simp only [vcLW, vcL, vcOp, if_pos hm]; rfl
@[simp ↓] theorem vcLW_mapUpdate (t : TypeId) (m i x : Operand) (w : Wit (hn, ops, Oper.mk dst (.mapUpdate t m i x) ty pos aft none :: rest, Q, f, H, ds)) (hm : (mapOf P t).isSome = true) : vcLW P hn dr ops (⟨dst, .mapUpdate t m i x, ty, pos, aft, none⟩ :: rest) Q f H ds w = (bindOW (mapOf P t) (fun mm => mapUpdW H (evW m f (wit _)) (keyA (evW i f (wit _))) (evW x f (wit _)) mm.1 (fun H' => vcLW P hn dr ops rest Q (updO f dst (.tup [])) H' ds (wit _)) (wit _)) (wit _)) := by
  simp only [vcLW, vcL, vcOp, if_pos hm]; rfl
@[simp ↓] theorem vcLW_insert (t : TypeId) (m i x : Operand) (w : Wit (hn, ops, Oper.mk dst (.insert t m i x) ty pos aft none :: rest, Q, f, H, ds)) (hm : (mapOf P t).isSome = true) : vcLW P hn dr ops (⟨dst, .insert t m i x, ty, pos, aft, none⟩ :: rest) Q f H ds w = (bindOW (mapOf P t) (fun mm => mapUpdW H (evW m f (wit _)) (keyA (evW i f (wit _))) (evW x f (wit _)) mm.1 (fun H' => vcLW P hn dr ops rest Q (updO f dst (.tup [])) H' ds (wit _)) (wit _)) (wit _)) := by
  simp only [vcLW, vcL, vcOp, if_pos hm]; rfl
@[simp ↓] theorem vcLW_call (fo : Operand) (l : List Operand) (ts : Array TypeId) (w : Wit (hn, ops, Oper.mk dst (.call ⟨.value fo, l.toArray, ts⟩) ty pos aft none :: rest, Q, f, H, ds)) : vcLW P hn dr ops (⟨dst, .call ⟨.value fo, l.toArray, ts⟩, ty, pos, aft, none⟩ :: rest) Q f H ds w = (callTVW P hn dr H dst (evW fo f (wit _)) (evs l f (wit _)) (fun r H' => vcLW P hn dr ops rest Q (updO f dst r) H' ds (wit _)) (fun x H' => QW Q (.pan x) (panFr dr ops f) H' ds (wit _)) (wit _) (wit _)) := (rfl)
@[simp ↓] theorem vcLW_call_g (j : Nat) (want : Bool) (fo : Operand) (l : List Operand) (ts : Array TypeId) (w : Wit (hn, ops, Oper.mk dst (.call ⟨.value fo, l.toArray, ts⟩) ty pos aft (some (j, want)) :: rest, Q, f, H, ds)) : vcLW P hn dr ops (⟨dst, .call ⟨.value fo, l.toArray, ts⟩, ty, pos, aft, some (j, want)⟩ :: rest) Q f H ds w = guardVW (fW (gdW j ops (wit _)) f (wit _)) want (callTVW P hn dr H dst (evW fo f (wit _)) (evs l f (wit _)) (fun r H' => vcLW P hn dr ops rest Q (updO f dst r) H' ds (wit _)) (fun x H' => QW Q (.pan x) (panFr dr ops f) H' ds (wit _)) (wit _) (wit _)) (vcLW P hn dr ops rest Q (updO f dst (.tup [])) H ds (wit _)) (wit _) (wit _) := (rfl)
@[simp ↓] theorem vcLW_len (x : Operand) (t : TypeId) (w : Wit (hn, ops, Oper.mk dst (.call ⟨.builtin .len, #[x], #[t]⟩) ty pos aft none :: rest, Q, f, H, ds)) : vcLW P hn dr ops (⟨dst, .call ⟨.builtin .len, #[x], #[t]⟩, ty, pos, aft, none⟩ :: rest) Q f H ds w = (bindOW (lenV H (lkOf P t) (evW x f (wit _))) (fun n => vcLW P hn dr ops rest Q (updO f dst (.v (.int .i64 n))) H ds (wit _)) (wit _)) := (rfl)
@[simp ↓] theorem vcLW_len_g (j : Nat) (want : Bool) (x : Operand) (t : TypeId) (w : Wit (hn, ops, Oper.mk dst (.call ⟨.builtin .len, #[x], #[t]⟩) ty pos aft (some (j, want)) :: rest, Q, f, H, ds)) : vcLW P hn dr ops (⟨dst, .call ⟨.builtin .len, #[x], #[t]⟩, ty, pos, aft, some (j, want)⟩ :: rest) Q f H ds w = guardVW (fW (gdW j ops (wit _)) f (wit _)) want (bindOW (lenV H (lkOf P t) (evW x f (wit _))) (fun n => vcLW P hn dr ops rest Q (updO f dst (.v (.int .i64 n))) H ds (wit _)) (wit _)) (vcLW P hn dr ops rest Q (updO f dst (.tup [])) H ds (wit _)) (wit _) (wit _) := (rfl)
@[simp ↓] theorem vcLW_append (s x : Operand) (t t' : TypeId) (w : Wit (hn, ops, Oper.mk dst (.call ⟨.builtin .append, #[s, x], #[t, t']⟩) ty pos aft none :: rest, Q, f, H, ds)) : vcLW P hn dr ops (⟨dst, .call ⟨.builtin .append, #[s, x], #[t, t']⟩, ty, pos, aft, none⟩ :: rest) Q f H ds w = (andVW (t = t') (bindOW (slbOf P t) (fun sl => apV H hn dst sl (evW s f (wit _)) (evW x f (wit _)) (fun r H' => vcL P hn dr ops rest Q (updO f dst r) H' ds) (wit _)) (wit _)) (wit _)) := (rfl)
@[simp ↓] theorem vcLW_binOp (op : BinOp) (t t' : TypeId) (x y : Operand) (w : Wit (hn, ops, Oper.mk dst (.binOp op t x y t') ty pos aft none :: rest, Q, f, H, ds)) : vcLW P hn dr ops (⟨dst, .binOp op t x y t', ty, pos, aft, none⟩ :: rest) Q f H ds w = (binV P op t (constB x || constB y) (nilSlC y) (evW x f (wit _)) (evW y f (wit _)) (fun r => vcLW P hn dr ops rest Q (updO f dst r) H ds (wit _)) (wit _)) := (rfl)
@[simp ↓] theorem vcLW_binOp_g (j : Nat) (want : Bool) (op : BinOp) (t t' : TypeId) (x y : Operand) (w : Wit (hn, ops, Oper.mk dst (.binOp op t x y t') ty pos aft (some (j, want)) :: rest, Q, f, H, ds)) : vcLW P hn dr ops (⟨dst, .binOp op t x y t', ty, pos, aft, some (j, want)⟩ :: rest) Q f H ds w = guardVW (fW (gdW j ops (wit _)) f (wit _)) want (binV P op t (constB x || constB y) (nilSlC y) (evW x f (wit _)) (evW y f (wit _)) (fun r => vcLW P hn dr ops rest Q (updO f dst r) H ds (wit _)) (wit _)) (vcLW P hn dr ops rest Q (updO f dst (.tup [])) H ds (wit _)) (wit _) (wit _) := (rfl)
@[simp ↓] theorem vcLW_buildSlice (t : TypeId) (len : Nat) (l : List (Nat × Operand)) (w : Wit (hn, ops, Oper.mk dst (.buildSlice t len l.toArray) ty pos aft none :: rest, Q, f, H, ds)) : vcLW P hn dr ops (⟨dst, .buildSlice t len l.toArray, ty, pos, aft, none⟩ :: rest) Q f H ds w = (bindOW (slbOf P t) (fun sl => andVW (len * sl.2.1 ≤ 2 ^ 24) (bindOW (afillS sl.2.1 (List.replicate len (sl.2.2.1.map .v)) (evp l f (wit _))) (fun es => bsV H hn dst sl es len (fun r H' => vcL P hn dr ops rest Q (updO f dst r) H' ds) (wit _)) (wit _)) (wit _)) (wit _)) := (rfl)
@[simp ↓] theorem vcLW_indexAddr (t : TypeId) (x i : Operand) (w : Wit (hn, ops, Oper.mk dst (.indexAddr t x i) ty pos aft none :: rest, Q, f, H, ds)) : vcLW P hn dr ops (⟨dst, .indexAddr t x i, ty, pos, aft, none⟩ :: rest) Q f H ds w = (idxAddrV P H t (evW x f (wit _)) (evW i f (wit _)) (fun r => bindVW (r) (fun r => vcLW P hn dr ops rest Q (updO f dst r) H ds (wit _)) (wit _)) (wit _)) := (rfl)
@[simp ↓] theorem vcLW_indexAddr_g (j : Nat) (want : Bool) (t : TypeId) (x i : Operand) (w : Wit (hn, ops, Oper.mk dst (.indexAddr t x i) ty pos aft (some (j, want)) :: rest, Q, f, H, ds)) : vcLW P hn dr ops (⟨dst, .indexAddr t x i, ty, pos, aft, some (j, want)⟩ :: rest) Q f H ds w = guardVW (fW (gdW j ops (wit _)) f (wit _)) want (idxAddrV P H t (evW x f (wit _)) (evW i f (wit _)) (fun r => bindVW (r) (fun r => vcLW P hn dr ops rest Q (updO f dst r) H ds (wit _)) (wit _)) (wit _)) (vcLW P hn dr ops rest Q (updO f dst (.tup [])) H ds (wit _)) (wit _) (wit _) := (rfl)
@[simp ↓] theorem vcLW_index (t : TypeId) (x i : Operand) (w : Wit (hn, ops, Oper.mk dst (.index t x i) ty pos aft none :: rest, Q, f, H, ds)) : vcLW P hn dr ops (⟨dst, .index t x i, ty, pos, aft, none⟩ :: rest) Q f H ds w = (idxValV P t (evW x f (wit _)) (evW i f (wit _)) (fun r => bindVW (r) (fun r => vcLW P hn dr ops rest Q (updO f dst r) H ds (wit _)) (wit _)) (wit _)) := (rfl)
@[simp] theorem vcL_W (l : List Oper) : vcL P hn dr ops l Q f H ds = vcLW P hn dr ops l Q f H ds (wit _) := (rfl)
@[simp] theorem vcC_W (n : Nat) (c : Code) : vcC P hn od n c Q f H ds = vcCW P hn od n c Q f H ds (wit _) := (rfl)
@[simp ↓] theorem frm_eval_cons (a : AV) (as : List AV) (i t : Nat) : frm (a :: as) i t = if t = i then a else frm as (i + 1) t := (rfl)
@[simp low] theorem fW_low (t : Nat) (f : Fr) (w : Wit f) : fW t f w = f t := (rfl)
theorem loop_rule {P : Program} {hn : Nat → Bool} {od : Nat → Option OPlan} {n : Nat} {c : Code} {Q : AQ} {f : Fr} {H : List Blk} {ds : List ADef} {w : Wit (n, Code.loop c, Q, f, H, ds)} {α : Type} (I : α → Fr → List Blk → Prop) (μ : α → Nat) (hs : (P.follows .mixedOrders && smallC hn od n c) = true) (x0 : α) (h : I x0 f H)
    (round : ∀ x f H, I x f H → vcCW P hn od n c (thenQ (fun f' H' ds' => ds' = ds ∧ ∃ y, μ y < μ x ∧ I y f' H') Q) f H ds (wit _)) : AWPW P n (.loop c) Q f H ds w := by
  simp only [Bool.and_eq_true] at hs
  refine awp_loop (fun m f H ds' => ds' = ds ∧ ∃ x, μ x = m ∧ I x f H) ?_ ⟨rfl, x0, rfl, h⟩
  rintro m f H _ ⟨rfl, x, rfl, hI⟩
  refine (vcC_sound hs.1 hs.2 (round x f H hI)).mono fun y f' H' ds' hq => ?_
  cases y <;> first | exact hq | (obtain ⟨h1, z, h2, h3⟩ := hq; exact ⟨_, h2, h1, z, rfl, h3⟩)
end Go.Mu
namespace Go.Mu
open Go.RowKit (Below)
mutual
def AV.frz (k sz : Nat) (es : List (List AV)) : AV → AV
  | .hs k' off n ver => if k' = k ∧ ver = es.length then .vs sz ((es.drop off).take n) else .hs k' off n ver
  | .fn f a b => .fn f (frzL k sz es a) (frzL k sz es b)
  | .ifc t x => .ifc t (AV.frz k sz es x)
  | .agg cs => .agg (frzL k sz es cs)
  | .tup cs => .tup (frzL k sz es cs)
  | x => x
def frzL (k sz : Nat) (es : List (List AV)) : List AV → List AV
  | [] => []
  | c :: cs => AV.frz k sz es c :: frzL k sz es cs
end
theorem frzL_map (k sz : Nat) (es : List (List AV)) (l : List AV) : frzL k sz es l = l.map (AV.frz k sz es) := by
  induction l with
  | nil => simp [frzL]
  | cons c cs ih => simp [frzL, ih]
def Blk.frz (k sz : Nat) (es : List (List AV)) : Blk → Blk
  | .box t cs => .box t (frzL k sz es cs)
  | .row t z rs => .row t z (rs.map (frzL k sz es))
  | .map ms => .map (ms.map fun p => (p.1, AV.frz k sz es p.2))
  | .mapg ms => .mapg (ms.map fun p => (p.1, AV.frz k sz es p.2))
  | b => b
def frzH (k sz : Nat) (es : List (List AV)) (H : List Blk) : List Blk := (H.map (Blk.frz k sz es)).set k .gone
theorem frz_fixed {k sz : Nat} {es : List (List AV)} (b : Blk) : (b.frz k sz es).fixed = b.fixed := by cases b <;> rfl
theorem frz_live {k sz : Nat} {es : List (List AV)} (b : Blk) : (b.frz k sz es).live = b.live := by cases b <;> rfl
theorem frzH_get {k sz : Nat} {es : List (List AV)} {H : List Blk} {i : Nat} {bl : Blk} (h : (frzH k sz es H)[i]? = some bl) : (i = k ∧ bl = .gone ∧ k < H.length) ∨ (i ≠ k ∧ ∃ b, H[i]? = some b ∧ bl = b.frz k sz es) := by
  unfold frzH at h
  rw [List.getElem?_set] at h
  by_cases hi : k = i
  · subst hi
    simp at h
    exact .inl ⟨rfl, h.2.symm, h.1⟩
  · rw [if_neg hi, List.getElem?_map] at h
    cases hb : H[i]? with
    | none => rw [hb] at h; cases h
    | some b => rw [hb] at h; cases h; exact .inr ⟨fun e => hi e.symm, b, rfl, rfl⟩
theorem frzH_other {k sz : Nat} {es : List (List AV)} {H : List Blk} {i : Nat} {b : Blk} (hi : i ≠ k) (h : H[i]? = some b) : (frzH k sz es H)[i]? = some (b.frz k sz es) := by
  unfold frzH
  rw [List.getElem?_set, if_neg (fun e => hi e.symm), List.getElem?_map, h]; rfl
theorem frzH_self {k sz : Nat} {es : List (List AV)} {H : List Blk} {b : Blk} (h : H[k]? = some b) : (frzH k sz es H)[k]? = some .gone := by
  unfold frzH
  have : k < (H.map (Blk.frz k sz es)).length := by simpa using (List.getElem?_eq_some_iff.1 h).1
  simp [List.getElem?_set, (List.getElem?_eq_some_iff.1 h).1]
def Cx.frz (cx : Cx) (k sz : Nat) (es : List (List AV)) : Cx := { cx with Φ := fun b => cx.Φ b ∨ b = cx.κ k, H := frzH k sz es cx.H }
theorem le_frz {cx : Cx} {k sz : Nat} {es : List (List AV)} {b : Blk} (hk : cx.H[k]? = some b) : Le cx (cx.frz k sz es) := by
  refine ⟨fun b off x _ hc => hc, fun _ h => .inl h, fun i bl h hf => ?_, fun i t z rs h => ?_⟩
  · by_cases hi : i = k
    · subst hi; exact ⟨.gone, frzH_self hk, rfl, rfl⟩
    · exact ⟨_, frzH_other hi h, by rw [frz_fixed]; exact hf, rfl⟩
  · by_cases hi : i = k
    · subst hi; exact .inl ⟨.gone, frzH_self hk, rfl⟩
    · exact .inr ⟨_, frzH_other hi h, by simp, fun _ => ⟨rfl, rfl⟩⟩
theorem rep_frz {B : Nat} {w0 : World} {cx : Cx} (h : HRel B w0 cx) {k sz : Nat} {t : TypeId} {es : List (List AV)} (hk : cx.H[k]? = some (.row t sz es)) (hz : es.flatten.all AV.frzB = true) {z : Bool} {a : AV} {y : Value} (hr : Rep cx z a y) :
    Rep (cx.frz k sz es) z (a.frz k sz es) y := by
  have hle : Le cx (cx.frz k sz es) := le_frz hk
  induction hr with
  | v x => exact .v x
  | vs0 s a cap => exact .vs0 s a cap
  | vs s rs b o cap vals hf hz hcap hl hn ho hc hr ih => exact Rep.mono hle (.vs s rs b o cap vals hf hz hcap hl hn ho hc hr)
  | vx s rs b o vals hf hz hl hn ho hc hr ih => exact Rep.mono hle (.vx s rs b o vals hf hz hl hn ho hc hr)
  | vp cs b o vals hf hn hc hr ih => exact Rep.mono hle (.vp cs b o vals hf hn hc hr)
  | bp k' off bl hk' hf => exact Rep.mono hle (.bp k' off bl hk' hf)
  | rp k' ver i off y ho bl hk' hp => exact Rep.mono hle (.rp k' ver i off y ho bl hk' hp)
  | hm k' bl hk' hf => exact Rep.mono hle (.hm k' bl hk' hf)
  | hg k' bl hk' hf => exact Rep.mono hle (.hg k' bl hk' hf)
  | hi k' bl hk' hf => exact Rep.mono hle (.hi k' bl hk' hf)
  | yl k' bl hk' hf => exact Rep.mono hle (.yl k' bl hk' hf)
  | bs k' off n cap bl hk' hf hc => exact Rep.mono hle (.bs k' off n cap bl hk' hf hc)
  | hs k' off n ver y ho bl hk' hp =>
    simp only [AV.frz]
    split
    · rename_i hc
      obtain ⟨rfl, rfl⟩ := hc
      rw [hk] at hk'; cases hk'
      rcases hp with hf | ⟨t', sz', es', he, hv, hy⟩
      · simp [Blk.fixed] at hf
      · cases he
        obtain ⟨hoff, rfl⟩ := hy rfl
        obtain ⟨b1, b2, b3, b4, b5, b6, cur, b7, b8, b9, b10⟩ := h.blk _ _ hk
        have hlen : ((es.drop off).take n).length = n := by simp; omega
        have hl2 : ∀ e ∈ (es.drop off).take n, e.length = sz := fun e he => b4 e (List.mem_of_mem_drop (List.mem_of_mem_take he))
        have hrep : RepL cx false ((es.drop off).take n).flatten (((cur.take (es.length * sz)).drop (off * sz)).take (n * sz)) := by
          rw [flatten_take _ sz _ (fun e he => b4 e (List.mem_of_mem_drop he)), flatten_drop _ sz _ b4]
          exact (b9.drop _).take _
        have hst : RepL (cx.frz k' sz es) true ((es.drop off).take n).flatten (((cur.take (es.length * sz)).drop (off * sz)).take (n * sz)) := by
          refine (hrep.strong ?_).mono hle
          refine List.all_eq_true.2 fun x hx => List.all_eq_true.1 hz x ?_
          obtain ⟨e, he, hxe⟩ := List.mem_flatten.1 hx
          exact List.mem_flatten.2 ⟨e, List.mem_of_mem_drop (List.mem_of_mem_take he), hxe⟩
        have hfin := Rep.vs (cx := cx.frz k' sz es) (z := false) sz ((es.drop off).take n) (cx.κ k') (off * sz) (cx.γ k' - off) (((cur.take (es.length * sz)).drop (off * sz)).take (n * sz)) (.inr rfl) b3 (by rw [hlen]; omega) hl2 hst.len
          (fun v hv' => b10 v (List.mem_of_mem_take (List.mem_of_mem_drop (List.mem_of_mem_take hv')))) (fun j x hj => by
            show cx.w.cell? _ = _
            rw [List.getElem?_take] at hj
            split at hj
            · rw [List.getElem?_drop, List.getElem?_take] at hj
              split at hj
              · rw [cell_of_row _ _ _ _ _ _ b7]; simpa using hj
              · cases hj
            · cases hj) hst.rep
        rw [hlen] at hfin
        exact hfin
    · exact Rep.mono hle (.hs k' off n ver y ho bl hk' hp)
  | fn f fs cs vf vc hnf hrf hnc hrc ihf ihc =>
    simp only [AV.frz, frzL_map]
    refine .fn f _ _ vf vc (by simpa using hnf) (fun j c x h1 h2 => ?_) (by simpa using hnc) (fun j c x h1 h2 => ?_)
    · rw [List.getElem?_map] at h1
      cases hc : fs[j]? with
      | none => rw [hc] at h1; cases h1
      | some c' => rw [hc] at h1; cases h1; exact ihf j c' x hc h2
    · rw [List.getElem?_map] at h1
      cases hc : cs[j]? with
      | none => rw [hc] at h1; cases h1
      | some c' => rw [hc] at h1; cases h1; exact ihc j c' x hc h2
  | ifc t x y h ih => simp only [AV.frz]; exact .ifc t _ y ih
  | agg cs vals hn hr ih =>
    simp only [AV.frz, frzL_map]
    refine .agg _ vals (by simpa using hn) fun j c x h1 h2 => ?_
    rw [List.getElem?_map] at h1
    cases hc : cs[j]? with
    | none => rw [hc] at h1; cases h1
    | some c' => rw [hc] at h1; cases h1; exact ih j c' x hc h2
  | tup cs vals hn hr ih =>
    simp only [AV.frz, frzL_map]
    refine .tup _ vals (by simpa using hn) fun j c x h1 h2 => ?_
    rw [List.getElem?_map] at h1
    cases hc : cs[j]? with
    | none => rw [hc] at h1; cases h1
    | some c' => rw [hc] at h1; cases h1; exact ih j c' x hc h2
  | junk y => exact .junk y
theorem repL_frz {B : Nat} {w0 : World} {cx : Cx} (h : HRel B w0 cx) {k sz : Nat} {t : TypeId} {es : List (List AV)} (hk : cx.H[k]? = some (.row t sz es)) (hz : es.flatten.all AV.frzB = true) {z : Bool} {cs : List AV} {vals : List Value} (hr : RepL cx z cs vals) :
    RepL (cx.frz k sz es) z (frzL k sz es cs) vals := by
  rw [frzL_map]
  refine ⟨by simpa using hr.len, fun j c x h1 h2 => ?_⟩
  rw [List.getElem?_map] at h1
  cases hc : cs[j]? with
  | none => rw [hc] at h1; cases h1
  | some c' => rw [hc] at h1; cases h1; exact rep_frz h hk hz (hr.rep j c' x hc h2)
theorem flatten_frzL (k sz : Nat) (es : List (List AV)) (rs : List (List AV)) : (rs.map (frzL k sz es)).flatten = frzL k sz es rs.flatten := by
  rw [frzL_map, List.map_flatten]
  congr 1
  refine List.map_congr_left fun r _ => frzL_map k sz es r
theorem hrel_frz {B : Nat} {w0 : World} {cx : Cx} (h : HRel B w0 cx) {k sz : Nat} {t : TypeId} {es : List (List AV)} (hk : cx.H[k]? = some (.row t sz es)) (hz : es.flatten.all AV.frzB = true) : HRel B w0 (cx.frz k sz es) := by
  have hle : Le cx (cx.frz k sz es) := le_frz hk
  refine ⟨h.below, h.base, fun b hf => ?_, fun i bl hi => ?_, fun i j b1 b2 a1 a2 l1 l2 he => ?_⟩
  · rcases hf with hf | rfl
    · exact h.frz b hf
    · exact ((h.blk k _ hk).lt rfl).2.1
  · rcases frzH_get hi with ⟨rfl, rfl, _⟩ | ⟨hne, b, hb, rfl⟩
    · trivial
    · have hbi := h.blk i b hb
      have hΦ : b.live = true → ¬ (cx.frz k sz es).Φ (cx.κ i) := by
        rintro hl (hf | he)
        · exact (hbi.lt hl).2.2 hf
        · exact hne (h.inj i k b _ hb hk hl rfl he)
      cases b with
      | box t' cs =>
        obtain ⟨h1, h2, vals, h3, h4⟩ := hbi
        exact ⟨h1, hΦ rfl, vals, h3, repL_frz h hk hz h4⟩
      | row t' z rs =>
        obtain ⟨h1, h2, h3, h4, h5, h6, vals, h7, h8, h9, h10⟩ := hbi
        refine ⟨h1, hΦ rfl, h3, fun e he => ?_, by rw [List.length_map]; exact h5, h6, vals, h7, h8, ?_, h10⟩
        · obtain ⟨e', he', rfl⟩ := List.mem_map.1 he
          rw [frzL_map]; simpa using h4 e' he'
        · rw [flatten_frzL]; simpa using repL_frz h hk hz h9
      | map ms =>
        obtain ⟨h1, h2, ents, h3, h4, h5⟩ := hbi
        refine ⟨h1, hΦ rfl, ents, h3, by simpa using h4, fun j p e a b => ?_⟩
        rw [List.getElem?_map] at a
        cases hc : ms[j]? with
        | none => rw [hc] at a; cases a
        | some p' =>
          rw [hc] at a; cases a
          obtain ⟨x1, x2, x3⟩ := h5 j p' e hc b
          exact ⟨x1, rep_frz h hk hz x2, x3⟩
      | mapg ms =>
        obtain ⟨h1, h2, ents, c, h3, h4, h5, h6⟩ := hbi
        refine ⟨h1, hΦ rfl, ents, c, h3, by simpa using h4, fun j p e a b => ?_, h6⟩
        rw [List.getElem?_map] at a
        cases hc : ms[j]? with
        | none => rw [hc] at a; cases a
        | some p' =>
          rw [hc] at a; cases a
          obtain ⟨x1, x2⟩ := h5 j p' e hc b
          exact ⟨x1, rep_frz h hk hz x2⟩
      | pend => trivial
      | gone => trivial
      | dfr o => obtain ⟨h1, h2, h3⟩ := hbi; exact ⟨h1, hΦ rfl, h3⟩
      | lp st pend n f ps assign body => obtain ⟨h1, h2, fn, tmps, d, h3, h4, h5⟩ := hbi; exact ⟨h1, hΦ rfl, fn, tmps, d, h3, h4, fun t ht => (h5 t ht).mono hle⟩
      | it km n seen =>
        obtain ⟨h1, h2, h3, h4⟩ := hbi
        refine ⟨h1, hΦ rfl, h3, fun m hm => ?_⟩
        obtain ⟨bl, a, b⟩ := h4 m hm
        obtain ⟨bl', a', b', _⟩ := hle.fixed m bl a b
        exact ⟨bl', a', b'⟩
  · rcases frzH_get a1 with ⟨rfl, rfl, _⟩ | ⟨n1, c1, d1, rfl⟩
    · simp [Blk.live] at l1
    · rcases frzH_get a2 with ⟨rfl, rfl, _⟩ | ⟨n2, c2, d2, rfl⟩
      · simp [Blk.live] at l2
      · rw [frz_live] at l1 l2
        exact h.inj i j c1 c2 d1 d2 l1 l2 he
mutual
def AV.under (n : Nat) : AV → Bool
  | .bp k _ => k < n
  | .rp k _ _ _ => k < n
  | .hs k _ _ _ => k < n
  | .hm k => k < n
  | .hg k => k < n
  | .hi k => k < n
  | .yl k => k < n
  | .bs k _ _ => k < n
  | .fn _ a b => underL n a && underL n b
  | .ifc _ x => AV.under n x
  | .agg cs => underL n cs
  | .tup cs => underL n cs
  | _ => true
def underL (n : Nat) : List AV → Bool
  | [] => true
  | c :: cs => AV.under n c && underL n cs
end
theorem underL_all (n : Nat) (l : List AV) : underL n l = l.all (AV.under n) := by
  induction l with
  | nil => simp [underL]
  | cons c cs ih => simp [underL, ih]
def Blk.under (n : Nat) : Blk → Bool
  | .box _ cs => underL n cs
  | .row _ _ rs => rs.all (underL n)
  | .map ms => ms.all fun p => p.2.under n
  | .mapg ms => ms.all fun p => p.2.under n
  | .lp _ _ m f _ _ _ => (List.range m).all fun t => (f t).under n
  | .it (some m) _ _ => m < n
  | _ => true
def underH (n : Nat) (H : List Blk) : Bool := H.all (Blk.under n)
theorem Rep.under {cx : Cx} {z : Bool} {a : AV} {y : Value} (h : Rep cx z a y) : a.under cx.H.length = true := by
  have lt : ∀ {k : Nat} {bl : Blk}, cx.H[k]? = some bl → k < cx.H.length := fun hk => (List.getElem?_eq_some_iff.1 hk).1
  have lst : ∀ {cs : List AV} {vals : List Value}, cs.length = vals.length → (∀ (j : Nat) c x, cs[j]? = some c → vals[j]? = some x → c.under cx.H.length = true) → underL cx.H.length cs = true := by
    intro cs vals hn ih
    rw [underL_all, List.all_eq_true]
    intro c hc
    obtain ⟨j, hj, rfl⟩ := List.getElem_of_mem hc
    exact ih j _ _ (List.getElem?_eq_getElem hj) (List.getElem?_eq_getElem (by omega))
  induction h with
  | bp k off bl hk hf => simpa [AV.under] using lt hk
  | rp k ver i off y ho bl hk hp => simpa [AV.under] using lt hk
  | hs k off n ver y ho bl hk hp => simpa [AV.under] using lt hk
  | hm k bl hk hf => simpa [AV.under] using lt hk
  | hg k bl hk hf => simpa [AV.under] using lt hk
  | hi k bl hk hf => simpa [AV.under] using lt hk
  | yl k bl hk hf => simpa [AV.under] using lt hk
  | bs k off n cap bl hk hf hc => simpa [AV.under] using lt hk
  | fn f fs cs vf vc hnf hrf hnc hrc ihf ihc => simp only [AV.under, Bool.and_eq_true]; exact ⟨lst hnf ihf, lst hnc ihc⟩
  | ifc t x y h ih => simpa [AV.under] using ih
  | agg cs vals hn hr ih => simp only [AV.under]; exact lst hn ih
  | tup cs vals hn hr ih => simp only [AV.under]; exact lst hn ih
  | _ => simp [AV.under]
theorem RepL.under {cx : Cx} {z : Bool} {cs : List AV} {vals : List Value} (h : RepL cx z cs vals) : underL cx.H.length cs = true := by
  rw [underL_all, List.all_eq_true]
  intro c hc
  obtain ⟨j, hj, rfl⟩ := List.getElem_of_mem hc
  have := h.len
  exact (h.rep j _ _ (List.getElem?_eq_getElem hj) (List.getElem?_eq_getElem (by omega))).under
theorem HRel.under {B : Nat} {w0 : World} {cx : Cx} (h : HRel B w0 cx) : underH cx.H.length cx.H = true := by
  rw [underH, List.all_eq_true]
  intro bl hbl
  obtain ⟨i, hi, rfl⟩ := List.getElem_of_mem hbl
  have hb := h.blk i _ (List.getElem?_eq_getElem hi)
  generalize cx.H[i] = bl at hb
  cases bl with
  | box t cs => obtain ⟨_, _, vals, _, h4⟩ := hb; exact h4.under
  | row t z rs =>
    obtain ⟨_, _, h3, h4, h5, h6, vals, h7, h8, h9, h10⟩ := hb
    simp only [Blk.under, List.all_eq_true]
    intro r hr
    have := h9.under
    rw [underL_all, List.all_eq_true] at this ⊢
    exact fun c hc => this c (List.mem_flatten.2 ⟨r, hr, hc⟩)
  | map ms =>
    obtain ⟨_, _, ents, h3, h4, h5⟩ := hb
    simp only [Blk.under, List.all_eq_true]
    intro p hp
    obtain ⟨j, hj, rfl⟩ := List.getElem_of_mem hp
    exact (h5 j _ _ (List.getElem?_eq_getElem hj) (List.getElem?_eq_getElem (by omega))).2.1.under
  | mapg ms =>
    obtain ⟨_, _, ents, c, h3, h4, h5, _⟩ := hb
    simp only [Blk.under, List.all_eq_true]
    intro p hp
    obtain ⟨j, hj, rfl⟩ := List.getElem_of_mem hp
    exact (h5 j _ _ (List.getElem?_eq_getElem hj) (List.getElem?_eq_getElem (by omega))).2.under
  | pend => rfl
  | gone => rfl
  | dfr o => rfl
  | lp st pend n f ps assign body =>
    obtain ⟨_, _, fn, tmps, d, h3, h4, h5⟩ := hb
    simp only [Blk.under, List.all_eq_true, List.mem_range]
    exact fun t ht => (h5 t ht).under
  | it km n seen =>
    obtain ⟨_, _, _, h4⟩ := hb
    cases km with
    | none => rfl
    | some m => obtain ⟨bl, a, _⟩ := h4 m rfl; simpa [Blk.under] using (List.getElem?_eq_some_iff.1 a).1
def Cx.cut (cx : Cx) (H1 : List Blk) : Cx := { cx with H := H1 }
theorem rep_true {cx cx' : Cx} (hw : cx'.w = cx.w) (hf : cx'.Φ = cx.Φ) {a : AV} {y : Value} (h : Rep cx true a y) : Rep cx' true a y := by
  generalize hb : true = b at h
  induction h with
  | v x => exact .v x
  | vs0 sz a cap => exact .vs0 sz a cap
  | vs sz es b o cap vals hfr hz hcap hl hn ho hc hr ih => exact .vs sz es b o cap vals (by rw [hf]; exact hfr) hz hcap hl hn ho (by rw [hw]; exact hc) (fun j c x a b => ih j c x a b rfl)
  | vx sz es b o vals hfr hz hl hn ho hc hr ih => exact .vx sz es b o vals (by rw [hf]; exact hfr) hz hl hn ho (by rw [hw]; exact hc) (fun j c x a b => ih j c x a b rfl)
  | vp cs b o vals hfr hn hc hr ih => exact .vp cs b o vals (by rw [hf]; exact hfr) hn (by rw [hw]; exact hc) (fun j c x a b => ih j c x a b rfl)
  | bp => cases hb
  | rp => cases hb
  | hs => cases hb
  | hm => cases hb
  | hg => cases hb
  | hi => cases hb
  | yl => cases hb
  | bs => cases hb
  | fn f fs cs vf vc hnf hrf hnc hrc ihf ihc => subst hb; exact .fn f fs cs vf vc hnf (fun j c x a b => ihf j c x a b rfl) hnc (fun j c x a b => ihc j c x a b rfl)
  | ifc t x y h ih => exact .ifc t x y (ih hb)
  | agg cs vals hn hr ih => subst hb; exact .agg cs vals hn (fun j c x a b => ih j c x a b rfl)
  | tup cs vals hn hr ih => subst hb; exact .tup cs vals hn (fun j c x a b => ih j c x a b rfl)
  | junk y => exact .junk y
theorem rep_cut {cx : Cx} {H1 L : List Blk} (hH : cx.H = H1 ++ L) {z : Bool} {a : AV} {y : Value} (hr : Rep cx z a y) (hu : a.under H1.length = true) : Rep (cx.cut H1) z a y := by
  have get : ∀ {k : Nat} {bl : Blk}, cx.H[k]? = some bl → k < H1.length → (cx.cut H1).H[k]? = some bl := by
    intro k bl hk hlt
    rw [hH, List.getElem?_append_left hlt] at hk; exact hk
  have lst : ∀ {cs : List AV} {j : Nat} {c : AV}, underL H1.length cs = true → cs[j]? = some c → c.under H1.length = true := by
    intro cs j c hu hc
    rw [underL_all, List.all_eq_true] at hu
    exact hu c (List.mem_of_getElem? hc)
  induction hr with
  | v x => exact .v x
  | vs0 s a cap => exact .vs0 s a cap
  | vs s rs b o cap vals hf hz hcap hl hn ho hc hr ih => exact .vs s rs b o cap vals hf hz hcap hl hn ho hc fun j c x h1 h2 => rep_true (cx := cx) (cx' := cx.cut H1) rfl rfl (hr j c x h1 h2)
  | vx s rs b o vals hf hz hl hn ho hc hr ih => exact .vx s rs b o vals hf hz hl hn ho hc fun j c x h1 h2 => rep_true (cx := cx) (cx' := cx.cut H1) rfl rfl (hr j c x h1 h2)
  | vp cs b o vals hf hn hc hr ih => exact .vp cs b o vals hf hn hc fun j c x h1 h2 => rep_true (cx := cx) (cx' := cx.cut H1) rfl rfl (hr j c x h1 h2)
  | bp k off bl hk hf => exact .bp k off bl (get hk (by simpa [AV.under] using hu)) hf
  | rp k ver i off y ho bl hk hp => exact .rp k ver i off y ho bl (get hk (by simpa [AV.under] using hu)) hp
  | hs k off n ver y ho bl hk hp => exact .hs k off n ver y ho bl (get hk (by simpa [AV.under] using hu)) hp
  | hm k bl hk hf => exact .hm k bl (get hk (by simpa [AV.under] using hu)) hf
  | hg k bl hk hf => exact .hg k bl (get hk (by simpa [AV.under] using hu)) hf
  | hi k bl hk hf => exact .hi k bl (get hk (by simpa [AV.under] using hu)) hf
  | yl k bl hk hf => exact .yl k bl (get hk (by simpa [AV.under] using hu)) hf
  | bs k off n cap bl hk hf hc => exact .bs k off n cap bl (get hk (by simpa [AV.under] using hu)) hf hc
  | fn f fs cs vf vc hnf hrf hnc hrc ihf ihc =>
    simp only [AV.under, Bool.and_eq_true] at hu
    exact .fn f fs cs vf vc hnf (fun j c x a b => ihf j c x a b (lst hu.1 a)) hnc (fun j c x a b => ihc j c x a b (lst hu.2 a))
  | ifc t x y h ih => simp only [AV.under] at hu; exact .ifc t x y (ih hu)
  | agg cs vals hn hr ih => simp only [AV.under] at hu; exact .agg cs vals hn (fun j c x a b => ih j c x a b (lst hu a))
  | tup cs vals hn hr ih => simp only [AV.under] at hu; exact .tup cs vals hn (fun j c x a b => ih j c x a b (lst hu a))
  | junk y => exact .junk y
theorem repL_cut {cx : Cx} {H1 L : List Blk} (hH : cx.H = H1 ++ L) {z : Bool} {cs : List AV} {vals : List Value} (hr : RepL cx z cs vals) (hu : underL H1.length cs = true) : RepL (cx.cut H1) z cs vals := by
  rw [underL_all, List.all_eq_true] at hu
  exact ⟨hr.len, fun j c x h1 h2 => rep_cut hH (hr.rep j c x h1 h2) (hu c (List.mem_of_getElem? h1))⟩
theorem hrel_cut {B : Nat} {w0 : World} {cx : Cx} (h : HRel B w0 cx) {H1 L : List Blk} (hH : cx.H = H1 ++ L) (hu : underH H1.length H1 = true) : HRel B w0 (cx.cut H1) := by
  have get : ∀ {k : Nat} {bl : Blk}, H1[k]? = some bl → cx.H[k]? = some bl := by
    intro k bl hk
    rw [hH, List.getElem?_append_left (List.getElem?_eq_some_iff.1 hk).1]; exact hk
  refine ⟨h.below, h.base, h.frz, fun i bl hi => ?_, fun i j b1 b2 a1 a2 l1 l2 he => h.inj i j b1 b2 (get a1) (get a2) l1 l2 he⟩
  have hb := h.blk i bl (get hi)
  have hub : bl.under H1.length = true := List.all_eq_true.1 hu bl (List.mem_of_getElem? hi)
  cases bl with
  | box t cs => obtain ⟨h1, h2, vals, h3, h4⟩ := hb; exact ⟨h1, h2, vals, h3, repL_cut hH h4 hub⟩
  | row t z rs =>
    obtain ⟨h1, h2, h3, h4, h5, h6, vals, h7, h8, h9, h10⟩ := hb
    refine ⟨h1, h2, h3, h4, h5, h6, vals, h7, h8, repL_cut hH h9 ?_, h10⟩
    simp only [Blk.under, List.all_eq_true] at hub
    rw [underL_all, List.all_eq_true]
    intro c hc
    obtain ⟨r, hr, hcr⟩ := List.mem_flatten.1 hc
    have := hub r hr
    rw [underL_all, List.all_eq_true] at this
    exact this c hcr
  | map ms =>
    obtain ⟨h1, h2, ents, h3, h4, h5⟩ := hb
    refine ⟨h1, h2, ents, h3, h4, fun j p e a b => ?_⟩
    obtain ⟨x1, x2, x3⟩ := h5 j p e a b
    simp only [Blk.under, List.all_eq_true] at hub
    exact ⟨x1, rep_cut hH x2 (hub p (List.mem_of_getElem? a)), x3⟩
  | mapg ms =>
    obtain ⟨h1, h2, ents, c, h3, h4, h5, h6⟩ := hb
    refine ⟨h1, h2, ents, c, h3, h4, fun j p e a b => ?_, h6⟩
    obtain ⟨x1, x2⟩ := h5 j p e a b
    simp only [Blk.under, List.all_eq_true] at hub
    exact ⟨x1, rep_cut hH x2 (hub p (List.mem_of_getElem? a))⟩
  | pend => trivial
  | gone => trivial
  | dfr o => exact hb
  | lp st pend n f ps assign body =>
    obtain ⟨h1, h2, fn, tmps, d, h3, h4, h5⟩ := hb
    simp only [Blk.under, List.all_eq_true, List.mem_range] at hub
    exact ⟨h1, h2, fn, tmps, d, h3, h4, fun t ht => rep_cut hH (h5 t ht) (hub t ht)⟩
  | it km n seen =>
    obtain ⟨h1, h2, h3, h4⟩ := hb
    refine ⟨h1, h2, h3, fun m hm => ?_⟩
    subst hm
    obtain ⟨bl, a, b⟩ := h4 m rfl
    have hlt : m < H1.length := by simpa [Blk.under] using hub
    refine ⟨bl, ?_, b⟩
    show H1[m]? = _
    rw [hH, List.getElem?_append_left hlt] at a; exact a
theorem le_cut {cx0 cx : Cx} (hle : Le cx0 cx) {H1 L : List Blk} (hH : cx.H = H1 ++ L) (hl : cx0.H.length ≤ H1.length) : Le cx0 (cx.cut H1) := by
  have get : ∀ {k : Nat} {bl bl' : Blk}, cx0.H[k]? = some bl → cx.H[k]? = some bl' → H1[k]? = some bl' := by
    intro k bl bl' h0 hk
    rw [hH, List.getElem?_append_left (by have := (List.getElem?_eq_some_iff.1 h0).1; omega)] at hk; exact hk
  refine ⟨hle.cell, hle.fr, fun k bl h hf => ?_, fun k t sz es h => ?_⟩
  · obtain ⟨bl', h1, h2, h3⟩ := hle.fixed k bl h hf
    exact ⟨bl', get h h1, h2, h3⟩
  · rcases hle.row k t sz es h with ⟨bl', h1, h2⟩ | ⟨es', h1, h2, h3⟩
    · exact .inl ⟨bl', get h h1, h2⟩
    · exact .inr ⟨es', get h h1, h2, h3⟩
inductive Give : List Blk → AV → List Blk → AV → Prop
  | refl (H : List Blk) (a : AV) : Give H a H a
  | step (H : List Blk) (a : AV) (k sz : Nat) (t : TypeId) (es : List (List AV)) (H' : List Blk) (a' : AV) (hk : H[k]? = some (.row t sz es)) (hz : es.flatten.all AV.frzB = true) (h : Give (frzH k sz es H) (a.frz k sz es) H' a') : Give H a H' a'
theorem give_sound {H H' : List Blk} {a a' : AV} (g : Give H a H' a') {B : Nat} {w0 : World} {cx : Cx} {y : Value} (h : HRel B w0 cx) (hH : cx.H = H) (hr : Rep cx false a y) :
    ∃ cx', cx'.w = cx.w ∧ HRel B w0 cx' ∧ Le cx cx' ∧ cx'.H = H' ∧ Rep cx' false a' y := by
  induction g generalizing cx with
  | refl H a => exact ⟨cx, rfl, h, Le.refl _, hH, hr⟩
  | step H a k sz t es H' a' hk hz _ ih =>
    rw [← hH] at hk
    obtain ⟨cx', h1, h2, h3, h4, h5⟩ := ih (cx := cx.frz k sz es) (hrel_frz h hk hz) (by show frzH k sz es cx.H = _; rw [hH]) (rep_frz h hk hz hr)
    exact ⟨cx', h1, h2, (le_frz hk).trans h3, h4, h5⟩
def Tidy (H : List Blk) (R : AE → List Blk → Prop) : AE → List Blk → Prop := fun e H' =>
  match e with
  | .ret r => ∃ H1 r1, Give H' r H1 r1 ∧ ∃ H2 L, H1 = H2 ++ L ∧ H.length ≤ H2.length ∧ (underH H.length H = true → underH H2.length H2 = true) ∧ r1.under H2.length = true ∧ R (.ret r1) H2
  | .pan x => ∃ H1 x1, Give H' x H1 x1 ∧ ∃ H2 L, H1 = H2 ++ L ∧ H.length ≤ H2.length ∧ (underH H.length H = true → underH H2.length H2 = true) ∧ x1.under H2.length = true ∧ R (.pan x1) H2
theorem acalls_tidy {P : Program} {fid : FuncId} {args : List AV} {H : List Blk} {R : AE → List Blk → Prop} (h : ACalls P fid args H (Tidy H R)) : ACalls P fid args H R := by
  intro B w0 cx vals h1 h2 h3
  have hu := h1.under
  rw [h2] at hu
  refine (h B w0 cx vals h1 h2 h3).mono fun e w' he => ?_
  cases e with
  | returned y =>
    obtain ⟨cx', r, rfl, b1, b2, b3, H1, r1, g, H2, L, e1, e2, e3, e4, e5⟩ := he
    obtain ⟨cx2, c1, c2, c3, c4, c5⟩ := give_sound g b1 rfl b3
    rw [e1] at c4
    have hle : Le cx (cx2.cut H2) := le_cut (b2.trans c3) c4 (by rw [h2]; exact e2)
    exact ⟨cx2.cut H2, r1, c1, hrel_cut c2 c4 (e3 hu), hle, rep_cut c4 c5 e4, e5⟩
  | panicked ch =>
    obtain ⟨cx', x, y, rfl, b1, b2, hch, b3, H1, x1, g, H2, L, e1, e2, e3, e4, e5⟩ := he
    obtain ⟨cx2, c1, c2, c3, c4, c5⟩ := give_sound g b1 rfl b3
    rw [e1] at c4
    have hle : Le cx (cx2.cut H2) := le_cut (b2.trans c3) c4 (by rw [h2]; exact e2)
    exact ⟨cx2.cut H2, x1, y, c1, hrel_cut c2 c4 (e3 hu), hle, hch, rep_cut c4 c5 e4, e5⟩
  | outgrown => exact he
@[simp ↓] theorem callK_ret (K pan : AV → List Blk → Prop) (r : AV) (H : List Blk) : callK K pan (.ret r) H = K r H := (rfl)
theorem acallsW_of {P : Program} {g : FuncId} {args : List AV} {H : List Blk} {R R' : AE → List Blk → Prop} {w : Wit R} (h : ACalls P g args H R') (k : ∀ e H', R' e H' → R e H') : ACallsW P g args H R w := h.mono k
theorem acallsW_det {P : Program} {g : FuncId} {args : List AV} {H : List Blk} {R : AE → List Blk → Prop} {w : Wit R} {r : AV} (h : ACalls P g args H (fun e H' => e = .ret r ∧ H' = H)) (k : R (.ret r) H) : ACallsW P g args H R w :=
  h.mono fun e H' he => by obtain ⟨rfl, rfl⟩ := he; exact k
theorem tidy_same {H L : List Blk} {R : AE → List Blk → Prop} {r : AV} (hu : r.under H.length = true) (h : R (.ret r) H) : Tidy H R (.ret r) (H ++ L) := ⟨_, _, .refl _ _, H, L, rfl, Nat.le_refl _, id, hu, h⟩
theorem get_app_old {α : Type} {H : List α} {k : Nat} {x : α} (h : H[k]? = some x) (L : List α) : (H ++ L)[k]? = some x := by rw [List.getElem?_append_left (List.getElem?_eq_some_iff.1 h).1]; exact h
theorem ne_b {a b : Int} (h : (a == b) = false) : a ≠ b ∧ (a == b) = false ∧ (a != b) = true := ⟨by simpa using h, h, by simp [bne, h]⟩
theorem condVW_introE {a b : Int} {y n : Prop} {w : Wit y} {w' : Wit n} (hy : a = b → y) (hn : a ≠ b → (a == b) = false → (a != b) = true → n) : condVW (.v (.bool (a == b))) y n w w' :=
  condVW_intro (fun h => hy (by simpa using h)) (fun h => hn (ne_b h).1 (ne_b h).2.1 (ne_b h).2.2)
theorem condVW_introNE {a b : Int} {y n : Prop} {w : Wit y} {w' : Wit n} (hy : a ≠ b → (a == b) = false → (a != b) = true → y) (hn : a = b → n) : condVW (.v (.bool (a != b))) y n w w' :=
  condVW_intro (fun h => (fun h => hy (ne_b h).1 (ne_b h).2.1 (ne_b h).2.2) (by simpa using h)) (fun h => hn (by simpa using h))
theorem condVW_introB {b : Bool} {y n : Prop} {w : Wit y} {w' : Wit n} (hy : b = false → y) (hn : b = true → n) : condVW (.v (.bool (!b))) y n w w' :=
  condVW_intro (fun h => hy (by simpa using h)) (fun h => hn (by simpa using h))
theorem guardVW_introTE {a b : Int} {y n : Prop} {w : Wit y} {w' : Wit n} (hy : a = b → y) (hn : a ≠ b → (a == b) = false → (a != b) = true → n) : guardVW (.v (.bool (a == b))) true y n w w' :=
  guardVW_introT (fun h => hy (by simpa using h)) (fun h => hn (ne_b h).1 (ne_b h).2.1 (ne_b h).2.2)
theorem guardVW_introTNE {a b : Int} {y n : Prop} {w : Wit y} {w' : Wit n} (hy : a ≠ b → (a == b) = false → (a != b) = true → y) (hn : a = b → n) : guardVW (.v (.bool (a != b))) true y n w w' :=
  guardVW_introT (fun h => (fun h => hy (ne_b h).1 (ne_b h).2.1 (ne_b h).2.2) (by simpa using h)) (fun h => hn (by simpa using h))
theorem guardVW_introTB {b : Bool} {y n : Prop} {w : Wit y} {w' : Wit n} (hy : b = false → y) (hn : b = true → n) : guardVW (.v (.bool (!b))) true y n w w' :=
  guardVW_introT (fun h => hy (by simpa using h)) (fun h => hn (by simpa using h))
theorem guardVW_introFE {a b : Int} {y n : Prop} {w : Wit y} {w' : Wit n} (hy : a = b → n) (hn : a ≠ b → (a == b) = false → (a != b) = true → y) : guardVW (.v (.bool (a == b))) false y n w w' :=
  guardVW_introF (fun h => hy (by simpa using h)) (fun h => hn (ne_b h).1 (ne_b h).2.1 (ne_b h).2.2)
theorem guardVW_introFNE {a b : Int} {y n : Prop} {w : Wit y} {w' : Wit n} (hy : a ≠ b → (a == b) = false → (a != b) = true → n) (hn : a = b → y) : guardVW (.v (.bool (a != b))) false y n w w' :=
  guardVW_introF (fun h => (fun h => hy (ne_b h).1 (ne_b h).2.1 (ne_b h).2.2) (by simpa using h)) (fun h => hn (by simpa using h))
theorem guardVW_introFB {b : Bool} {y n : Prop} {w : Wit y} {w' : Wit n} (hy : b = false → n) (hn : b = true → y) : guardVW (.v (.bool (!b))) false y n w w' :=
  guardVW_introF (fun h => hy (by simpa using h)) (fun h => hn (by simpa using h))
end Go.Mu
