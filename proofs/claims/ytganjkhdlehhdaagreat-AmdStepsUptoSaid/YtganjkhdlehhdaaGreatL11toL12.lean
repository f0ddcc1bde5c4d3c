/- What readings of arrays and states tell. -/
import Derived.Test.YtganjkhdlehhdaaGreatKN0toL10
import Derived.Test.YtganjkhdlehhdaaGreatRL4toAMS
import Derived.OpenShut
import Derived.Test.YtganjkhdlehhdaaGreatFwRowtoME6
set_option linter.unusedVariables false
set_option linter.unusedSimpArgs false
set_option maxHeartbeats 4000000
set_option maxRecDepth 100000
namespace Go.Proofs.YtganjkhdlehhdaaGreat.Lift
open Go.ChangeShapes Go.WideShapes Go.ChangeAt Go.RowKit Go.Mu Go.Proofs
section
variable {H : Type} {enc : TypeId × Value → H} {P : Program} {cx : Cx}
theorem tells_array {n N sz : Nat} {t e : TypeId} (ht : P.underlying t = some (.array N e)) (hsz : P.cellsOf e = sz) (htz : P.cellsOf t = N * sz) {α : Type} {cells : α → List AV} {size : α → Nat} {ok : α → Prop} (h : Tells enc P cx n e cells size ok) :
    Tells enc P cx (n + 1) t (fun l : List α => (l.map cells).flatten) (fun l => sizes size l + 1) (fun l => l.length = N ∧ ∀ a ∈ l, ok a) := by
  intro cs x hx
  obtain ⟨xs, m, hm, rfl, hl, hxl, hel⟩ := DataW.trod_array ht hx
  obtain rfl : n = m := by omega
  rw [hsz] at hel
  have step : ∀ k, k ≤ N → ∃ l : List α, l.length = k ∧ RepL cx true (l.map cells).flatten (cs.take (k * sz)) ∧ (∀ v ∈ cs.take (k * sz), v.oneCell' = true) ∧ sizes size l ≤ Rows.uptoBulkAll ((xs.take k).map (·.1)) ∧ ∀ a ∈ l, ok a := by
    intro k
    induction k with
    | zero => intro _; exact ⟨[], rfl, by simpa using RepL.nil _ _, by simp, by simp [sizes], by simp⟩
    | succ k ih =>
      intro hk
      obtain ⟨l, h1, h2, h3, h4, h5⟩ := ih (by omega)
      have hkl : k < xs.length := by omega
      have hy := hel k (by omega)
      rw [List.getElem?_eq_getElem hkl] at hy
      obtain ⟨a, r, o, s, q⟩ := h _ _ hy
      have htk : cs.take ((k + 1) * sz) = cs.take (k * sz) ++ (cs.drop (k * sz)).take sz := by rw [Nat.add_mul, Nat.one_mul, List.take_add]
      refine ⟨l ++ [a], by simp [h1], ?_, ?_, ?_, ?_⟩
      · rw [List.map_append, List.flatten_append, htk]
        exact h2.append (by simpa using r)
      · intro v hv
        rw [htk] at hv
        rcases List.mem_append.1 hv with hv | hv
        · exact h3 v hv
        · exact o v hv
      · rw [List.take_succ_eq_append_getElem hkl, List.map_append, bulk_append]
        simp only [sizes, List.map_append, List.sum_append, List.map_cons, List.map_nil, List.sum_cons, List.sum_nil, Rows.uptoBulkAll] at h4 ⊢
        omega
      · intro b hb
        rcases List.mem_append.1 hb with hb | hb
        · exact h5 b hb
        · obtain rfl := List.mem_singleton.1 hb; exact q
  obtain ⟨l, h1, h2, h3, h4, h5⟩ := step N (Nat.le_refl _)
  rw [List.take_of_length_le (by omega)] at h2 h3
  rw [List.take_of_length_le (by omega)] at h4
  refine ⟨l, h2, h3, ?_, h1, h5⟩
  simp only [Rows.uptoBulk]; omega
theorem flatU (l : List Int) : (l.map fun i => [U i]).flatten = Regs l := by
  induction l with
  | nil => rfl
  | cons a l ih => rw [List.map_cons, List.flatten_cons, ih]; rfl
end
section
variable {H : Type} {enc : TypeId × Value → H} {cx : Cx}
theorem tells_regs : ∀ n, Tells enc Tryz.prog cx n 24 Regs (fun _ => 1) (fun R => R.length = 16 ∧ ∀ x ∈ R, Wd x)
  | 0 => tells_zero
  | n + 1 => (tells_array (N := 16) (sz := 1) (e := 23) (by kernel_rfl) (by kernel_rfl) (by kernel_rfl) (tells_u n)).map id (fun l => (flatU l).symm) (fun l => by rw [sizes_one]; show 1 ≤ l.length + 1; omega) (fun l h => ⟨h.1, fun x hx => ⟨(h.2 x hx).1, Int.lt_of_le_of_lt (h.2 x hx).2 (by decide)⟩⟩)
theorem tells_fl : ∀ n, Tells enc Tryz.prog cx n 26 Fl.cells (fun _ => 1) (fun _ => True)
  | 0 => tells_zero
  | n + 1 => (tells_struct (fl := [(4, 0, 1), (4, 1, 1), (4, 2, 1), (4, 3, 1), (4, 4, 1)]) (by kernel_rfl) (by kernel_rfl)
      (tellsF_cons (tells_b n) (tellsF_cons (tells_b n) (tellsF_cons (tells_b n) (tellsF_cons (tells_b n) (tellsF_cons (tells_b n) tellsF_nil)))))).map
      (fun (a0, a1, a2, a3, a4, _) => ⟨a0, a1, a2, a3, a4⟩) (fun _ => rfl) (fun _ => by simp) (fun _ _ => trivial)
theorem tells_st : ∀ n, Tells enc Tryz.prog cx n 28 stC (fun _ => 1) stOk
  | 0 => tells_zero
  | n + 1 => (tells_struct (fl := [(24, 0, 16), (26, 16, 5), (3, 21, 1), (3, 22, 1)]) (by kernel_rfl) (by kernel_rfl)
      (tellsF_cons (tells_regs n) (tellsF_cons (tells_fl n) (tellsF_cons (tells_i 3 (by kernel_rfl) n) (tellsF_cons (tells_i 3 (by kernel_rfl) n) tellsF_nil))))).map
      (fun (a0, a1, a2, a3, _) => ⟨a0, a1, a2, a3, [], zeroB⟩) (fun a => by simp [stC, Fl.cells]) (fun _ => by simp) (fun a h => ⟨h.1.1, h.1.2, rfl, rfl, h.2.2.1, h.2.2.2.1⟩)
end
section
variable {H : Type} {enc : TypeId × Value → H} {W : World} {base : Nat}
theorem arg_st : ArgOk enc Tryz.prog W base 28 (fun a => .agg (stC a)) (fun _ => 1) stOk := arg_struct Tryz.underlying28 (fun n => tells_st n)
end
end Go.Proofs.YtganjkhdlehhdaaGreat.Lift
namespace Go.Proofs.YtganjkhdlehhdaaGreat.Lift
open Go.ChangeShapes Go.WideShapes Go.ChangeAt Go.RowKit Go.Mu Go.Proofs
section
variable {H : Type} {enc : TypeId × Value → H} {cx : Cx}
theorem tells_s (n : Nat) : Tells enc Tryz.prog cx n 9 (fun s : ByteArray => [St s]) (fun s => s.size + 1) (fun _ => True) := tells_string (by kernel_rfl)
theorem tells_rg : ∀ n, Tells enc Tryz.prog cx n 125 Rg.cells (fun _ => 1) (fun _ => True)
  | 0 => tells_zero
  | n + 1 => (tells_struct (fl := [(9, 0, 1), (3, 1, 1), (3, 2, 1), (4, 3, 1)]) (by kernel_rfl) (by kernel_rfl)
      (tellsF_cons (tells_s n) (tellsF_cons (tells_i 3 (by kernel_rfl) n) (tellsF_cons (tells_i 3 (by kernel_rfl) n) (tellsF_cons (tells_b n) tellsF_nil))))).map (fun (a0, a1, a2, a3, _) => ⟨a0, a1, a2, a3⟩) (fun _ => rfl) (fun ⟨a0, a1, a2, a3, _⟩ => by simp only; omega) (fun _ _ => trivial)
theorem tells_rgs (hΦ : ∀ b, b < cx.w.heap.size → cx.Φ b) : ∀ n, Tells enc Tryz.prog cx n 29 (fun l : List Rg => [Rg.sl l]) (fun l => l.length) (fun _ => True)
  | 0 => tells_zero
  | n + 1 => (tells_slice (e := 125) (sz := 4) (by kernel_rfl) (by kernel_rfl) (by omega) hΦ (tells_rg n)).map id (fun _ => rfl) (fun l => by rw [sizes_one]; exact Nat.le_succ _) (fun _ _ => trivial)
theorem tells_wo (hΦ : ∀ b, b < cx.w.heap.size → cx.Φ b) : ∀ n, Tells enc Tryz.prog cx n 130 (fun l : List Int => [Wo.sl l]) (fun l => l.length) (fun _ => True)
  | 0 => tells_zero
  | n + 1 => (tells_slice (e := 23) (sz := 1) (by kernel_rfl) (by kernel_rfl) (by omega) hΦ (tells_u n)).map id (fun _ => rfl) (fun l => by rw [sizes_one]; exact Nat.le_succ _) (fun _ _ => trivial)
theorem tells_us (hΦ : ∀ b, b < cx.w.heap.size → cx.Φ b) : ∀ n, Tells enc Tryz.prog cx n 30 (fun l : List (List Int) => [Us.sl l]) (fun _ => 0) (fun _ => True)
  | 0 => tells_zero
  | n + 1 => (tells_slice (e := 130) (sz := 1) (by kernel_rfl) (by kernel_rfl) (by omega) hΦ (tells_wo hΦ n)).map id (fun _ => rfl) (fun l => Nat.zero_le _) (fun _ _ => trivial)
end
section
variable {H : Type} {enc : TypeId × Value → H} {W : World} {base : Nat}
theorem arg_rgs : ArgOk enc Tryz.prog W base 29 Rg.sl (fun l => l.length) (fun _ => True) := arg_one (one_slice (e := 125) (by kernel_rfl)) fun n => tells_rgs (fun _ h => h) n
theorem arg_us : ArgOk enc Tryz.prog W base 30 (fun l : List (List Int) => Us.sl l) (fun _ => 0) (fun _ => True) := arg_one (one_slice (e := 130) (by kernel_rfl)) fun n => tells_us (fun _ h => h) n
end
end Go.Proofs.YtganjkhdlehhdaaGreat.Lift
