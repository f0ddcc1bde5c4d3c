/- Maps of names and numbers: a copy; what two have alike. -/
import Derived.Test.YtpibcbilkpoomaaGreatFwRgtoFO6
import Derived.Test.YtpibcbilkpoomaaGreatFS3
import Derived.Test.YtpibcbilkpoomaaGreatFwMapg
import Derived.Shelf.SlMaps.Clone
set_option linter.unusedVariables false
set_option linter.unusedSimpArgs false
set_option maxHeartbeats 4000000
set_option maxRecDepth 100000
namespace Go.Proofs
open Go.Mu
theorem kclone_calls (b : Nat) (es : Array MapEntry) (clock : Nat) (w : World) (hb : w.heap[b]? = some (.map es clock)) :
    Calls Tryz.prog 113 #[.map (some b)] w fun e w' => e = .returned (.map (some w.heap.size)) ∧ w' = w.alloc (.map es clock) := by
  have hq := fun w => run_eql_map_nil_sl (P := Tryz.prog) w 129 _ _ (some b) Tryz.underlying129
  go_enter Tryz.func113, Tryz.ntmps113
  go_wp2
  rw [run_callFunc_extern Tryz.func187 (by kernel_rfl) (by kernel_rfl) (by kernel_rfl) (e := Extern.MapsClone.clone) (by kernel_rfl), run_maps_clone_sl w 129 hb]
  simp only [Result.andThen]
  rw [Oper.upon_value]
  go_wp2
  rw [run_typeAssert_map_sl _ 129 _ _ _ _ Tryz.underlying129]
  simp only [Result.andThen]
  rw [Oper.upon_value]
  go_wp2
  go_ret
  exact ⟨rfl, rfl⟩
theorem kclone_ok (es : List (Value × AV)) (k : Nat) (H : List Blk) (hk : H[k]? = some (.mapg es)) : ACalls Tryz.prog 113 [.hg k] H (fun e H' => e = .ret (.hg H.length) ∧ H' = H ++ [.mapg es]) := by
  intro B w0 cx vals hR hH hA
  subst hH
  obtain ⟨v1, vs1, rfl, r1, hA1⟩ := hA.cons_inv
  obtain rfl := hA1.nil_inv
  obtain ⟨b1, b2, ents, c, b3, b4, b5, b6⟩ := hR.blk k _ hk
  cases r1 with
  | hg _ bl hk' hf =>
    refine (kclone_calls (cx.κ k) ents.toArray c cx.w b3).mono ?_
    rintro e w' ⟨rfl, rfl⟩
    have hle := le_push cx (.map ents.toArray c) (.mapg es) 0
    have hp : HRel B w0 (cx.push (.map ents.toArray c) (.mapg es) 0) := by
      refine hrel_push hR _ _ _ ⟨?_, ?_, ents, c, ?_, b4, fun j p e a b => ?_, b6⟩
      · show B ≤ updN _ _ _ _; simp; exact hR.base
      · show ¬ cx.Φ (updN _ _ _ _); simp; exact fun hf => Nat.lt_irrefl _ (hR.frz _ hf)
      · show (cx.w.alloc _).heap[updN _ _ _ _]? = _; simp only [updN_same]; exact heap_alloc_new _ _
      · obtain ⟨c1, c2⟩ := b5 j p e a b; exact ⟨c1, c2.mono hle⟩
    refine ⟨_, .hg cx.H.length, rfl, hp, hle, ?_, rfl, rfl⟩
    have e : (cx.push (.map ents.toArray c) (.mapg es) 0).κ cx.H.length = cx.w.heap.size := updN_same _ _ _
    rw [← e]
    exact .hg _ (.mapg es) (by simp [Cx.push]) rfl
theorem klook {u : ByteArray → Option Int} {W : World} {bk : Nat} {ents : List MapEntry} {c : Nat} (h2 : W.heap[bk]? = some (.map ents.toArray c)) (hf : FindU u ents) (n : ByteArray) :
    (Instr.lookup 129 (.map (some bk)) (.string n) true).run Tryz.prog W = .ok (.tuple #[.int .u64 ((u n).getD 0), .bool (u n).isSome]) W := by
  have hu : Tryz.prog.underlying 129 = some (.map 9 48) := Tryz.underlying129
  have hk : Tryz.prog.underlying 9 = some .string := Tryz.underlying9
  have hz : zeroOf Tryz.prog 48 = some (.int .u64 0) := by simp
  have hck := run_checkKey_plainK (P := Tryz.prog) hk (.inr (.inl rfl)) ents.toArray.isEmpty (.string n) W
  rcases hf n with ⟨e1, e2⟩ | ⟨a, i, e1, e2⟩
  · have hfk : (Instr.findKey 9 (.string n) ents).run Tryz.prog W = .ok none W := by simp [Instr.findKey, run_underlying hk, e2]
    simp only [Instr.lookup, Sem.run_bind, run_underlying hu, Result.andThen_ok, Mu.run_getObj_map Tryz.prog h2, Sem.run_pure, hck, hfk, List.toList_toArray, run_zeroOf hz, e1]
    rfl
  · have hfk : (Instr.findKey 9 (.string n) ents).run Tryz.prog W = .ok (some (i, .int .u64 a)) W := by simp [Instr.findKey, run_underlying hk, e2]
    simp only [Instr.lookup, Sem.run_bind, run_underlying hu, Result.andThen_ok, Mu.run_getObj_map Tryz.prog h2, Sem.run_pure, hck, hfk, List.toList_toArray, e1]
    rfl
theorem delcl_ok (u : ByteArray → Option Int) : DelCl Tryz.prog 115 129 u := by
  intro W n x bj bk ents c h1 h2 hf
  have hx : W.cell? ⟨bj, 0, none⟩ = some (.map (some bk)) := cell_of_row _ _ _ _ _ _ h1
  have hl := klook h2 hf n
  cases hun : u n with
  | none =>
    rw [hun] at hl
    simp only [Option.getD_none, Option.isSome_none] at hl
    go_enter Tryz.func115, Tryz.ntmps115
    go_wp2
    go_ret
    exact ⟨rfl, rfl, rfl, rfl, Nat.le_refl _, fun _ _ _ => rfl⟩
  | some a =>
    rw [hun] at hl
    simp only [Option.getD_some, Option.isSome_some] at hl
    go_enter Tryz.func115, Tryz.ntmps115
    go_wp2
    go_ret
    refine ⟨?_, rfl, rfl, rfl, Nat.le_refl _, fun _ _ _ => rfl⟩
    show Ending.returned (.bool (a != x)) = _
    congr 2
    by_cases h : a = x
    · subst h; simp
    · simp [h]
structure KG (K : KEnv) (t : KL) : Prop where
  nd : (t.map (·.1)).Nodup
  look : ∀ n, alook n t = K n
  size : ∀ x ∈ t, x.1.size ≤ maxLen
theorem alook_mem : ∀ {t : KL} {n : ByteArray} {x : Int}, (t.map (·.1)).Nodup → (alook n t = some x ↔ (n, x) ∈ t)
  | [], n, x, _ => by simp [alook]
  | (m, y) :: t, n, x, hn => by
    simp only [List.map_cons, List.nodup_cons] at hn
    rw [alook]
    by_cases h : n = m
    · subst h
      rw [if_pos rfl, List.mem_cons, Option.some.injEq, Prod.mk.injEq]
      constructor
      · rintro rfl; exact .inl ⟨rfl, rfl⟩
      · rintro (⟨_, rfl⟩ | h)
        · rfl
        · exact absurd (List.mem_map.2 ⟨_, h, rfl⟩) hn.1
    · rw [if_neg h, alook_mem hn.2, List.mem_cons, Prod.mk.injEq]
      constructor
      · exact .inr
      · rintro (⟨rfl, _⟩ | h2)
        · exact absurd rfl h
        · exact h2
theorem nodup_fst {t : KL} (h : (t.map (·.1)).Nodup) : t.Nodup := by
  rw [List.Nodup, List.pairwise_map] at h
  exact h.imp fun h e => h (by rw [e])
theorem KG.both {K U : KEnv} {t ut t' : KL} (hk : KG K t) (hu : KG U ut) (hn : (t'.map (·.1)).Nodup) (hm : ∀ x, x ∈ t' ↔ x ∈ t ∧ U x.1 = some x.2) : KG (kBoth K U) t' ∧ t'.length ≤ t.length := by
  refine ⟨⟨hn, fun n => ?_, fun x hx => hk.size x ((hm x).1 hx).1⟩, ?_⟩
  · unfold kBoth
    have key : ∀ x, alook n t' = some x ↔ K n = some x ∧ U n = some x := fun x => by
      rw [alook_mem hn, hm, ← alook_mem hk.nd, hk.look]
    split
    · rename_i e
      cases hK : K n with
      | none =>
        cases ha : alook n t' with
        | none => rfl
        | some x => have := ((key x).1 ha).1; rw [hK] at this; cases this
      | some x => exact (key x).2 ⟨hK, by rw [← e]; exact hK⟩
    · rename_i e
      cases ha : alook n t' with
      | none => rfl
      | some x => have := (key x).1 ha; exact absurd (this.1.trans this.2.symm) e
  · have : t'.Perm (t.filter fun x => decide (U x.1 = some x.2)) := by
      refine (List.perm_ext_iff_of_nodup (nodup_fst hn) ((nodup_fst hk.nd).filter _)).2 fun x => ?_
      rw [hm, List.mem_filter, decide_eq_true_eq]
    rw [this.length_eq]
    exact List.length_filter_le _ _
theorem delU_ok {K U : KEnv} {t ut : KL} {H : List Blk} {ka jb kb : Nat} (h1 : ka ≠ jb) (h2 : ka ≠ kb) (hka : H[ka]? = some (.mapg (strM kA t))) (hjb : H[jb]? = some (.box 129 [.hg kb])) (hkb : H[kb]? = some (.mapg (strM kA ut)))
    (hk : KG K t) (hu : KG U ut) (hl : t.length ≤ 2^40) : ACalls Tryz.prog 114 [.hg ka, .fn (.func 115) [] [.bp jb 0]] H (fun e H' => e = .ret (.tup []) ∧ ∃ t', H' = H.set ka (.mapg (strM kA t')) ∧ KG (kBoth K U) t' ∧ t'.length ≤ t.length) := by
  refine (acalls_deleteFunc Tryz.delU Tryz.underlying9 (enters_of Tryz.func115 (by kernel_rfl) rfl) (delcl_ok U) h1 h2 hka hjb hkb (fun n => ?_) hk.nd hk.size (by unfold maxLen; omega)).mono ?_
  · have := mfind_str kA n ut
    rw [hu.look] at this
    exact this
  · rintro e H' ⟨rfl, t', rfl, hn, hm⟩
    obtain ⟨a, b⟩ := hk.both hu hn hm
    exact ⟨rfl, t', rfl, a, b⟩
end Go.Proofs
