/- What readings of arrays and states tell. -/
import Derived.Test.YtganjkhdlehhdaaGreatKN0toL10
import Derived.Test.YtganjkhdlehhdaaGreatRL4toAMS
import Derived.OpenShut
set_option linter.unusedVariables false
set_option linter.unusedSimpArgs false
set_option maxHeartbeats 4000000
set_option maxRecDepth 100000
namespace Go.Proofs.YtganjkhdlehhdaaGreat.Lift
open Go.ChangeShapes Go.WideShapes Go.ChangeAt Go.RowKit Go.Mu Go.Proofs
section
variable {H : Type} {enc : TypeId × Value → H} {P : Program} {cx : Cx}
theorem tells_array {n N sz : Nat} {t e : TypeId} (ht : P.underlying t = some (.array N e)) (hsz : P.cellsOf e = sz) (htz : P.cellsOf t = N * sz) {α : Type} {cells : α → List AV} {size : α → Nat} {ok : α → Prop} (h : Tells enc P cx n e cells size ok) :
    Tells enc P cx (n + 1) t (fun l : List α => (l.map cells).flatten) (fun l => sizes size l + 1) (fun l => l.length = N ∧ ∀ a ∈ l, ok a) := by
  intro cs x hx
  obtain ⟨xs, m, hm, rfl, hl, hxl, hel⟩ := DataW.trod_array ht hx
  obtain rfl : n = m := by omega
  rw [hsz] at hel
  have step : ∀ k, k ≤ N → ∃ l : List α, l.length = k ∧ RepL cx true (l.map cells).flatten (cs.take (k * sz)) ∧ (∀ v ∈ cs.take (k * sz), v.oneCell' = true) ∧ sizes size l ≤ Rows.uptoBulkAll ((xs.take k).map (·.1)) ∧ ∀ a ∈ l, ok a := by
    intro k
    induction k with
    | zero => intro _; exact ⟨[], rfl, by simpa using RepL.nil _ _, by simp, by simp [sizes], by simp⟩
    | succ k ih =>
      intro hk
      obtain ⟨l, h1, h2, h3, h4, h5⟩ := ih (by omega)
      have hkl : k < xs.length := by omega
      have hy := hel k (by omega)
      rw [List.getElem?_eq_getElem hkl] at hy
      obtain ⟨a, r, o, s, q⟩ := h _ _ hy
      have htk : cs.take ((k + 1) * sz) = cs.take (k * sz) ++ (cs.drop (k * sz)).take sz := by rw [Nat.add_mul, Nat.one_mul, List.take_add]
      refine ⟨l ++ [a], by simp [h1], ?_, ?_, ?_, ?_⟩
      · rw [List.map_append, List.flatten_append, htk]
        exact h2.append (by simpa using r)
      · intro v hv
        rw [htk] at hv
        rcases List.mem_append.1 hv with hv | hv
        · exact h3 v hv
        · exact o v hv
      · rw [List.take_succ_eq_append_getElem hkl, List.map_append, bulk_append]
        simp only [sizes, List.map_append, List.sum_append, List.map_cons, List.map_nil, List.sum_cons, List.sum_nil, Rows.uptoBulkAll] at h4 ⊢
        omega
      · intro b hb
        rcases List.mem_append.1 hb with hb | hb
        · exact h5 b hb
        · obtain rfl := List.mem_singleton.1 hb; exact q
  obtain ⟨l, h1, h2, h3, h4, h5⟩ := step N (Nat.le_refl _)
  rw [List.take_of_length_le (by omega)] at h2 h3
  rw [List.take_of_length_le (by omega)] at h4
  refine ⟨l, h2, h3, ?_, h1, h5⟩
  simp only [Rows.uptoBulk]; omega
theorem flatU (l : List Int) : (l.map fun i => [U i]).flatten = Regs l := by
  induction l with
  | nil => rfl
  | cons a l ih => rw [List.map_cons, List.flatten_cons, ih]; rfl
end
section
variable {H : Type} {enc : TypeId × Value → H} {cx : Cx}
theorem tells_regs : ∀ n, Tells enc Tryz.prog cx n 24 Regs (fun _ => 1) (fun R => R.length = 16 ∧ ∀ x ∈ R, Wd x)
  | 0 => tells_zero
  | n + 1 => (tells_array (N := 16) (sz := 1) (e := 23) (by kernel_rfl) (by kernel_rfl) (by kernel_rfl) (tells_u n)).map id (fun l => (flatU l).symm) (fun l => by rw [sizes_one]; show 1 ≤ l.length + 1; omega) (fun l h => ⟨h.1, fun x hx => ⟨(h.2 x hx).1, Int.lt_of_le_of_lt (h.2 x hx).2 (by decide)⟩⟩)
end
theorem okWide_arr {P : Program} {w : World} {r} {base : Nat} {t e : TypeId} {N : Nat} {v : Value} (ht : P.underlying t = some (.array N e)) (h : Value.okWide P w r base t v) : ∃ cs, v = .agg cs ∧ cs.size = P.cellsOf t := by
  simp only [Value.okWide, ht] at h
  obtain ⟨cs, h1, h2, _⟩ := h
  exact ⟨cs, h1, h2⟩
theorem arg_array {H : Type} {enc : TypeId × Value → H} {P : Program} {W : World} {base : Nat} {t e : TypeId} {N : Nat} (ht : P.underlying t = some (.array N e)) {α : Type} {cells : α → List AV} {size : α → Nat} {ok : α → Prop} (h : ∀ n, Tells enc P (cx0 W) n t cells size ok) :
    ArgOk enc P W base t (fun a => .agg (cells a)) size ok := by
  intro v d p hv ⟨m, hm⟩
  obtain ⟨cs, rfl, hcs⟩ := okWide_arr ht hv
  obtain ⟨a, hr, _, hs, hk⟩ := h m _ _ hm
  refine ⟨a, ?_, hs, hk⟩
  have := Rep.agg (cells a) cs.toList hr.len (fun j c x a b => (hr.rep j c x a b).weak)
  simpa using this
section
variable {H : Type} {enc : TypeId × Value → H} {W : World} {base : Nat}
theorem arg_u : ArgOk enc Tryz.prog W base 23 U (fun _ => 1) Wd := fun v d p h1 h2 => by
  obtain ⟨a, r, s, o⟩ := arg_one (W := W) (base := base) (c := U) (one_int (k := .u64) (by kernel_rfl)) (fun n => tells_u n) v d p h1 h2
  exact ⟨a, r, s, o.1, Int.lt_of_le_of_lt o.2 (by decide)⟩
theorem arg_regs : ArgOk enc Tryz.prog W base 24 (fun a => .agg (Regs a)) (fun _ => 1) (fun R => R.length = 16 ∧ ∀ x ∈ R, Wd x) := arg_array (N := 16) (e := 23) (by kernel_rfl) (fun n => tells_regs n)
end
end Go.Proofs.YtganjkhdlehhdaaGreat.Lift
