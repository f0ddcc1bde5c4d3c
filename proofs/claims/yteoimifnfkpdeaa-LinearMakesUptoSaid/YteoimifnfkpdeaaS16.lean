/- What comes in, as abstract values. -/
import Derived.Test.YteoimifnfkpdeaaS15
import Derived.Test.YteoimifnfkpdeaaRows
import Derived.ProofKit
import Derived.OpenShut
import Derived.ChangeOld
import Derived.ChangeArms
import Derived.Below
import Derived.Carry
import Derived.JoinedCond
import Derived.Deep.Slices
import Derived.DataShut
set_option linter.unusedVariables false
set_option linter.unusedSimpArgs false
set_option maxHeartbeats 4000000
set_option maxRecDepth 100000
namespace Go.Proofs.Yteoimifnfkpdeaa
open Go.Mu Go.Proofs

theorem bulk_append {H : Type} (l r : List (DataW H)) : Rows.uptoBulkAll (l ++ r) = Rows.uptoBulkAll l + Rows.uptoBulkAll r := by
  induction l with
  | nil => simp [Rows.uptoBulkAll]
  | cons x l ih => simp only [List.cons_append, Rows.uptoBulkAll, ih]; omega
theorem bulk_one {H : Type} (d : DataW H) : 1 ≤ Rows.uptoBulk d := by
  cases d with
  | lit l => cases l <;> simp [Rows.uptoBulk]
  | _ => simp [Rows.uptoBulk]

section
variable {H : Type} {enc : TypeId × Value → H} {P : Program} {cx : Cx}
/-- These values lie from here on. -/
def Lies (w : World) (b o : Nat) (vs : List Value) : Prop := ∀ (j : Nat) x, vs[j]? = some x → w.cell? ⟨b, o + j, none⟩ = some x
theorem Lies.nil (w : World) (b o : Nat) : Lies w b o [] := fun j x h => by simp at h
theorem Lies.append {w : World} {b o : Nat} {vs us : List Value} (h : Lies w b o vs) (k : Lies w b (o + vs.length) us) : Lies w b o (vs ++ us) := by
  intro j x hx
  by_cases hj : j < vs.length
  · rw [List.getElem?_append_left hj] at hx; exact h j x hx
  · rw [List.getElem?_append_right (by omega)] at hx
    have := k _ x hx
    rwa [show o + vs.length + (j - vs.length) = o + j by omega] at this
/-- What a reading of such a type, so deep, tells. -/
def Tells (enc : TypeId × Value → H) (P : Program) (cx : Cx) (n : Nat) (t : TypeId) {α : Type} (cells : α → List AV) (size : α → Nat) : Prop :=
  ∀ cs x, DataW.trod enc P cx.w 0 (fun _ => true) true n t cs = some x → ∃ a : α, RepL cx true (cells a) cs ∧ (∀ v ∈ cs, v.oneCell' = true) ∧ size a ≤ Rows.uptoBulk x.1
theorem tells_int {n : Nat} {t : TypeId} {k : IntKind} (ht : P.underlying t = some (.int k)) : Tells enc P cx n t (fun i : Int => [AV.v (.int k i)]) (fun _ => 1) := by
  intro cs x h
  obtain ⟨i, rfl, rfl, _⟩ := DataW.trod_int ht h
  exact ⟨i, (RepL.nil _ _).cons (.v _), by simp [Value.oneCell'], by simp [Rows.uptoBulk]⟩
theorem tells_bool {n : Nat} {t : TypeId} (ht : P.underlying t = some .bool) : Tells enc P cx n t (fun b : Bool => [AV.v (.bool b)]) (fun _ => 1) := by
  intro cs x h
  obtain ⟨b, rfl, rfl⟩ := DataW.trod_bool ht h
  exact ⟨b, (RepL.nil _ _).cons (.v _), by simp [Value.oneCell'], by simp [Rows.uptoBulk]⟩
def sizes {α : Type} (size : α → Nat) (l : List α) : Nat := (l.map size).sum
theorem tells_slice {n : Nat} {t e : TypeId} {sz : Nat} {α : Type} {cells : α → List AV} {size : α → Nat} (ht : P.underlying t = some (.slice e)) (hsz : P.cellsOf e = sz) (hpos : 0 < sz)
    (hΦ : ∀ b, b < cx.w.heap.size → cx.Φ b) (he : Tells enc P cx n e cells size) : Tells enc P cx (n + 1) t (fun l : List α => [AV.vs sz (l.map cells)]) (sizes size) := by
  intro cs x h
  rcases DataW.trod_slice ht h with ⟨rfl, rfl⟩ | ⟨a, len, cap, elems, rest, n', hn, rfl, rfl, _, hl, hm, hlen, hel, _⟩
  · exact ⟨[], (RepL.nil _ _).cons (.vs0 _ _ _), by simp [Value.oneCell'], by simp [sizes]⟩
  · obtain rfl : n = n' := by omega
    rw [hsz] at hel
    have step : ∀ k, k ≤ len → ∃ (l : List α) (vs : List Value), l.length = k ∧ RepL cx true (l.map cells).flatten vs ∧ (∀ i, i < vs.length → cx.w.cell? (a.add i) = vs[i]?) ∧ vs.length = k * sz ∧ (∀ v ∈ vs, v.oneCell' = true) ∧ (∀ c ∈ l.map cells, c.length = sz) ∧
        sizes size l ≤ Rows.uptoBulkAll ((elems.take k).map (·.1)) := by
      intro k
      induction k with
      | zero => intro _; exact ⟨[], [], rfl, RepL.nil _ _, by simp, by simp, by simp, by simp, by simp [sizes]⟩
      | succ k ih =>
        intro hk
        obtain ⟨l, vs, h1, h2, h3, h4, h5, h6, h7⟩ := ih (by omega)
        have hkl : k < elems.length := by omega
        have hx := hel k (by omega)
        rw [List.getElem?_eq_getElem hkl] at hx
        obtain ⟨cs, hc, hx⟩ := Option.bind_eq_some_iff.1 hx
        obtain ⟨_, hcl, hcc⟩ := World.cells?_some hc
        obtain ⟨y, hy1, hy2, hy3⟩ := he cs _ hx
        refine ⟨l ++ [y], vs ++ cs, by simp [h1], ?_, ?_, by simp only [List.length_append, h4, hcl]; rw [Nat.add_mul]; omega, ?_, ?_, ?_⟩
        · rw [List.map_append, List.flatten_append]
          exact h2.append (by simpa using hy1)
        · intro i hi
          by_cases hiv : i < vs.length
          · rw [List.getElem?_append_left hiv]; exact h3 i hiv
          · rw [List.getElem?_append_right (by omega)]
            have := hcc (i - vs.length) (by simp at hi; omega)
            rw [← this, Go.Deep.add_add, h4]
            congr 2; omega
        · intro v hv
          rcases List.mem_append.1 hv with hv | hv
          · exact h5 v hv
          · exact hy2 v hv
        · intro c hc
          simp only [List.map_append, List.mem_append, List.map_cons, List.map_nil, List.mem_singleton] at hc
          rcases hc with hc | rfl
          · exact h6 c hc
          · rw [hy1.len, hcl]
        · rw [List.take_succ_eq_append_getElem hkl, List.map_append, bulk_append]
          simp only [sizes, List.map_append, List.sum_append, List.map_cons, List.map_nil, List.sum_cons, List.sum_nil, Rows.uptoBulkAll] at h7 ⊢
          omega
    obtain ⟨l, vs, h1, h2, h3, h4, h5, h6, h7⟩ := step len (Nat.le_refl _)
    have hbulk : sizes size l ≤ Rows.uptoBulk (DataW.slice (elems.map (·.1)) (rest.map (·.1))) := by
      rw [List.take_of_length_le (by omega)] at h7
      simp only [Rows.uptoBulk]; omega
    by_cases h0 : len = 0
    · subst h0
      obtain rfl : l = [] := List.eq_nil_of_length_eq_zero h1
      exact ⟨[], (RepL.nil _ _).cons (.vs0 _ _ _), by simp [Value.oneCell'], by simp [sizes]⟩
    · have hv0 : 0 < vs.length := by rw [h4]; exact Nat.mul_pos (by omega) hpos
      have hc0 := h3 0 hv0
      rw [List.getElem?_eq_getElem hv0] at hc0
      obtain ⟨b, o, spot⟩ := a
      obtain rfl : spot = none := by simpa [Addr.add] using World.cell?_spot hc0
      refine ⟨l, (RepL.nil _ _).cons ?_, by simp [Value.oneCell'], hbulk⟩
      have hlm : (l.map cells).length = len := by simp [h1]
      have hb : b < cx.w.heap.size := by
        have : (cx.w.cells? 0 ⟨b, o, none⟩ 1) = some [vs[0]] := World.cells?_of_each (Nat.zero_le _) rfl (fun i hi => by
          obtain rfl : i = 0 := by omega
          simpa using hc0)
        exact World.cells?_block this (by omega)
      have := Rep.vs (cx := cx) (z := true) sz (l.map cells) b o cap vs (hΦ b hb) hpos (by omega) h6 h2.len h5 (fun j x hx => by
        have hj : j < vs.length := (List.getElem?_eq_some_iff.1 hx).1
        rw [← hx, ← h3 j hj]
        unfold Addr.add
        split
        · rename_i hj0; subst hj0; rfl
        · rfl) h2.rep
      rwa [hlm] at this
/-- A struct's fields: their types, and where they lie. -/
def structOf (P : Program) (t : TypeId) : Option (List (TypeId × Nat × Nat)) := match P.underlying t with | some (.struct fs) => some (fs.toList.map fun f => (f.type, f.offset, P.cellsOf f.type)) | _ => none
theorem tells_struct {n : Nat} {t : TypeId} {fl : List (TypeId × Nat × Nat)} (ht : structOf P t = some fl) {cs : List Value} {x : DataW H × List MemPlace} (h : DataW.trod enc P cx.w 0 (fun _ => true) true (n + 1) t cs = some x) :
    ∃ xs : List (DataW H × List MemPlace), xs.length = fl.length ∧ Rows.uptoBulkAll (xs.map (·.1)) ≤ Rows.uptoBulk x.1 ∧ cs.length = P.cellsOf t ∧
      ∀ (i : Nat) f, fl[i]? = some f → DataW.trod enc P cx.w 0 (fun _ => true) true n f.1 ((cs.drop f.2.1).take f.2.2) = xs[i]? := by
  unfold structOf at ht
  split at ht
  · rename_i fs hu
    simp only [Option.some.injEq] at ht
    subst ht
    obtain ⟨xs, n', hn, rfl, h1, h2, h3⟩ := DataW.trod_struct hu h
    obtain rfl : n = n' := by omega
    refine ⟨xs, by simp [h2], by simp only [Rows.uptoBulk]; omega, h1, fun i f hf => ?_⟩
    rw [List.getElem?_map] at hf
    obtain ⟨g, hg, rfl⟩ := Option.map_eq_some_iff.1 hf
    exact h3 i g (by simpa using hg)
  · cases ht
theorem repl_split {cs : List Value} {o k : Nat} {a b : List AV} (h1 : RepL cx true a ((cs.drop o).take k)) (h2 : RepL cx true b (cs.drop (o + k))) : RepL cx true (a ++ b) (cs.drop o) := by
  have := h1.append h2
  rwa [← List.drop_drop, List.take_append_drop] at this
end
end Go.Proofs.Yteoimifnfkpdeaa
