/- Flat code that comes in. -/
import Derived.Test.YteoimifnfkpdeaaS16
set_option linter.unusedVariables false
set_option linter.unusedSimpArgs false
set_option maxHeartbeats 4000000
set_option maxRecDepth 100000
namespace Go.Proofs.Yteoimifnfkpdeaa
open Go.Mu Go.Proofs
section
variable {H : Type} {enc : TypeId × Value → H} {cx : Cx}
theorem len_cons {α : Type} {l : List α} {n : Nat} (h : l.length = n + 1) : ∃ a r, l = a :: r ∧ r.length = n := by
  cases l with
  | nil => simp at h
  | cons a r => exact ⟨a, r, rfl, by simpa using h⟩
theorem all_split {p : Value → Prop} {cs : List Value} {o k : Nat} (h1 : ∀ v ∈ (cs.drop o).take k, p v) (h2 : ∀ v ∈ cs.drop (o + k), p v) : ∀ v ∈ cs.drop o, p v := by
  intro v hv
  rw [← List.take_append_drop k (cs.drop o), List.drop_drop] at hv
  rcases List.mem_append.1 hv with h | h
  · exact h1 v h
  · exact h2 v h
theorem tells_ins (n : Nat) : Tells enc Try.prog cx n 43 Ins.cells (fun _ => 1) := by
  intro cs x h
  cases n with
  | zero => simp [DataW.trod] at h
  | succ n =>
    obtain ⟨xs, hl, hb, hcl, hf⟩ := tells_struct (fl := [(39, 0, 1), (40, 1, 1), (3, 2, 1), (3, 3, 1), (3, 4, 1), (3, 5, 1), (41, 6, 1), (4, 7, 1)]) (by kernel_rfl) h
    have hcl : cs.length = 8 := hcl.trans (by kernel_rfl)
    obtain ⟨x0, xs, rfl, hl0⟩ := len_cons hl
    obtain ⟨x1, xs, rfl, hl1⟩ := len_cons hl0
    obtain ⟨x2, xs, rfl, hl2⟩ := len_cons hl1
    obtain ⟨x3, xs, rfl, hl3⟩ := len_cons hl2
    obtain ⟨x4, xs, rfl, hl4⟩ := len_cons hl3
    obtain ⟨x5, xs, rfl, hl5⟩ := len_cons hl4
    obtain ⟨x6, xs, rfl, hl6⟩ := len_cons hl5
    obtain ⟨x7, xs, rfl, hl7⟩ := len_cons hl6
    obtain ⟨a0, r0, o0, _⟩ := tells_int (k := .i64) (by kernel_rfl) _ _ (hf 0 _ rfl)
    obtain ⟨a1, r1, o1, _⟩ := tells_int (k := .i64) (by kernel_rfl) _ _ (hf 1 _ rfl)
    obtain ⟨a2, r2, o2, _⟩ := tells_int (k := .i64) (by kernel_rfl) _ _ (hf 2 _ rfl)
    obtain ⟨a3, r3, o3, _⟩ := tells_int (k := .i64) (by kernel_rfl) _ _ (hf 3 _ rfl)
    obtain ⟨a4, r4, o4, _⟩ := tells_int (k := .i64) (by kernel_rfl) _ _ (hf 4 _ rfl)
    obtain ⟨a5, r5, o5, _⟩ := tells_int (k := .i64) (by kernel_rfl) _ _ (hf 5 _ rfl)
    obtain ⟨a6, r6, o6, _⟩ := tells_int (k := .u64) (by kernel_rfl) _ _ (hf 6 _ rfl)
    obtain ⟨a7, r7, o7, _⟩ := tells_bool (by kernel_rfl) _ _ (hf 7 _ rfl)
    have hend : cs.drop (7 + 1) = [] := List.drop_of_length_le (by omega)
    have re : RepL cx true [] (cs.drop (7 + 1)) := by rw [hend]; exact RepL.nil _ _
    have oe : ∀ v ∈ cs.drop (7 + 1), v.oneCell' = true := by rw [hend]; simp
    have r := repl_split r0 (repl_split r1 (repl_split r2 (repl_split r3 (repl_split r4 (repl_split r5 (repl_split r6 (repl_split r7 re)))))))
    have o := all_split o0 (all_split o1 (all_split o2 (all_split o3 (all_split o4 (all_split o5 (all_split o6 (all_split o7 oe)))))))
    exact ⟨⟨a0, a1, a2, a3, a4, a5, a6, a7⟩, by simpa using r, by simpa using o, bulk_one _⟩
theorem sizes_count (l : List Node) : sizes Node.count l = nodesCount l := by
  induction l with
  | nil => rfl
  | cons n l ih => simp only [sizes, List.map_cons, List.sum_cons] at ih ⊢; rw [nodesCount, ih]
theorem sizes_one {α : Type} (l : List α) : sizes (fun _ => 1) l = l.length := by
  induction l with
  | nil => rfl
  | cons n l ih => simp only [sizes, List.map_cons, List.sum_cons] at ih ⊢; rw [ih]; simp; omega
theorem tells_nodes (hΦ : ∀ b, b < cx.w.heap.size → cx.Φ b) (n : Nat) : (∀ m, m ≤ n → Tells enc Try.prog cx m 91 Node.cells Node.count) ∧ (∀ m, m ≤ n → Tells enc Try.prog cx m 23 (fun l : List Node => [Node.sl l]) nodesCount) := by
  induction n with
  | zero =>
    refine ⟨fun m hm cs x h => ?_, fun m hm cs x h => ?_⟩
    all_goals (obtain rfl : m = 0 := by omega); simp [DataW.trod] at h
  | succ n ih =>
    have hs : ∀ m, m ≤ n + 1 → Tells enc Try.prog cx m 23 (fun l : List Node => [Node.sl l]) nodesCount := by
      intro m hm
      cases m with
      | zero => intro cs x h; simp [DataW.trod] at h
      | succ m =>
        intro cs x h
        obtain ⟨l, h1, h2, h3⟩ := tells_slice (t := 23) (e := 91) (sz := 13) (by kernel_rfl) (by kernel_rfl) (by omega) hΦ (ih.1 m (by omega)) cs x h
        exact ⟨l, h1, h2, by rw [sizes_count] at h3; exact h3⟩
    refine ⟨fun m hm cs x h => ?_, hs⟩
    cases m with
    | zero => simp [DataW.trod] at h
    | succ m =>
      obtain ⟨xs, hl, hb, hcl, hf⟩ := tells_struct (fl := [(89, 0, 1), (43, 1, 8), (3, 9, 1), (23, 10, 1), (23, 11, 1), (23, 12, 1)]) (by kernel_rfl) h
      have hcl : cs.length = 13 := hcl.trans (by kernel_rfl)
      obtain ⟨x0, xs, rfl, hl0⟩ := len_cons hl
      obtain ⟨x1, xs, rfl, hl1⟩ := len_cons hl0
      obtain ⟨x2, xs, rfl, hl2⟩ := len_cons hl1
      obtain ⟨x3, xs, rfl, hl3⟩ := len_cons hl2
      obtain ⟨x4, xs, rfl, hl4⟩ := len_cons hl3
      obtain ⟨x5, xs, rfl, hl5⟩ := len_cons hl4
      obtain ⟨a0, r0, o0, _⟩ := tells_int (k := .i64) (by kernel_rfl) _ _ (hf 0 _ rfl)
      obtain ⟨a1, r1, o1, _⟩ := tells_ins m _ _ (hf 1 _ rfl)
      obtain ⟨a2, r2, o2, _⟩ := tells_int (k := .i64) (by kernel_rfl) _ _ (hf 2 _ rfl)
      obtain ⟨a3, r3, o3, c3⟩ := ih.2 m (by omega) _ _ (hf 3 _ rfl)
      obtain ⟨a4, r4, o4, c4⟩ := ih.2 m (by omega) _ _ (hf 4 _ rfl)
      obtain ⟨a5, r5, o5, c5⟩ := ih.2 m (by omega) _ _ (hf 5 _ rfl)
      have hend : cs.drop (12 + 1) = [] := List.drop_of_length_le (by omega)
      have re : RepL cx true [] (cs.drop (12 + 1)) := by rw [hend]; exact RepL.nil _ _
      have oe : ∀ v ∈ cs.drop (12 + 1), v.oneCell' = true := by rw [hend]; simp
      have r := repl_split r0 (repl_split r1 (repl_split r2 (repl_split r3 (repl_split r4 (repl_split r5 re)))))
      have o := all_split o0 (all_split o1 (all_split o2 (all_split o3 (all_split o4 (all_split o5 oe)))))
      refine ⟨.mk a0 a1 a2 a3 a4 a5, by simpa [Node.kind, Node.ins, Node.cond, Node.ahead, Node.body, Node.els] using r, by simpa using o, ?_⟩
      have b0 := bulk_one x0.1
      simp only [List.map_cons, Rows.uptoBulkAll] at hb
      simp only [Node.count]
      omega
theorem tells_flat (hΦ : ∀ b, b < cx.w.heap.size → cx.Φ b) (n : Nat) : Tells enc Try.prog cx n 25 Flat.cells (fun f => f.params.length + f.rets.length + nodesCount f.code) := by
  intro cs x h
  cases n with
  | zero => simp [DataW.trod] at h
  | succ n =>
    obtain ⟨xs, hl, hb, hcl, hf⟩ := tells_struct (fl := [(3, 0, 1), (22, 1, 1), (22, 2, 1), (3, 3, 1), (23, 4, 1)]) (by kernel_rfl) h
    have hcl : cs.length = 5 := hcl.trans (by kernel_rfl)
    obtain ⟨x0, xs, rfl, hl0⟩ := len_cons hl
    obtain ⟨x1, xs, rfl, hl1⟩ := len_cons hl0
    obtain ⟨x2, xs, rfl, hl2⟩ := len_cons hl1
    obtain ⟨x3, xs, rfl, hl3⟩ := len_cons hl2
    obtain ⟨x4, xs, rfl, hl4⟩ := len_cons hl3
    have ints : ∀ m, Tells enc Try.prog cx m 22 (fun l : List Int => [Int.sl l]) List.length := by
      intro m
      cases m with
      | zero => intro cs x h; simp [DataW.trod] at h
      | succ m =>
        intro cs x h
        obtain ⟨l, h1, h2, h3⟩ := tells_slice (t := 22) (e := 3) (sz := 1) (by kernel_rfl) (by kernel_rfl) (by omega) hΦ (tells_int (n := m) (k := .i64) (by kernel_rfl)) cs x h
        exact ⟨l, h1, h2, by rw [sizes_one] at h3; exact h3⟩
    obtain ⟨a0, r0, o0, _⟩ := tells_int (k := .i64) (by kernel_rfl) _ _ (hf 0 _ rfl)
    obtain ⟨a1, r1, o1, c1⟩ := ints n _ _ (hf 1 _ rfl)
    obtain ⟨a2, r2, o2, c2⟩ := ints n _ _ (hf 2 _ rfl)
    obtain ⟨a3, r3, o3, _⟩ := tells_int (k := .i64) (by kernel_rfl) _ _ (hf 3 _ rfl)
    obtain ⟨a4, r4, o4, c4⟩ := (tells_nodes hΦ n).2 n (Nat.le_refl _) _ _ (hf 4 _ rfl)
    have hend : cs.drop (4 + 1) = [] := List.drop_of_length_le (by omega)
    have re : RepL cx true [] (cs.drop (4 + 1)) := by rw [hend]; exact RepL.nil _ _
    have oe : ∀ v ∈ cs.drop (4 + 1), v.oneCell' = true := by rw [hend]; simp
    have r := repl_split r0 (repl_split r1 (repl_split r2 (repl_split r3 (repl_split r4 re))))
    have o := all_split o0 (all_split o1 (all_split o2 (all_split o3 (all_split o4 oe))))
    refine ⟨⟨a0, a1, a2, a3, a4⟩, by simpa using r, by simpa using o, ?_⟩
    simp only [List.map_cons, Rows.uptoBulkAll] at hb
    simp only
    omega
end
end Go.Proofs.Yteoimifnfkpdeaa
