/- The library's slices.Grow of no row, by the kit's contract: a row of one's own of noughts, cut to none. -/
import Derived.Test.YtklgcajfkkoacaaGreatFwCompacttoCN2
import Derived.Test.YtklgcajfkkoacaaGreatFwUtoCV3
import Derived.Shelf.Spec.SlicesGrow
set_option linter.unusedVariables false
set_option linter.unusedSimpArgs false
namespace Go.Mu
open Go.Proofs Go.Shelf
theorem zeroCells_rep (n : Nat) : Builtin.zeroCells #[Value.int .i64 0] n = (List.replicate n (Value.int .i64 0)).toArray := by
  apply Array.ext
  · simp [size_zeroCells]
  · intro i h1 h2
    simp [Builtin.zeroCells, Nat.mod_one]
theorem acalls_grow {P : Program} {H : List Blk} {g : Nat} {te : TypeId} (n : Nat) (hn : n ≤ 2^40)
    (hcall : ∀ w, Calls P g #[.slice none 0 0, .int .i64 n] w fun e w' => e = .returned (.slice (some ⟨w.heap.size, 0, none⟩) 0 (grownCap w n 0 te)) ∧
      w' = w.drew.alloc (.cells (#[] ++ Builtin.zeroCells #[Value.int .i64 0] n ++ Builtin.zeroCells #[Value.int .i64 0] (grownCap w n 0 te - n)) te)) :
    ACalls P g [.v (.slice none 0 0), .v (.int .i64 n)] H (fun e H' => e = .ret (.hs H.length 0 0 n) ∧ H' = H ++ [.row te 1 (List.replicate n [.v (.int .i64 0)])]) := by
  intro B w0 cx vals hR hH hA
  subst hH
  obtain ⟨v1, vs1, rfl, r1, hA1⟩ := hA.cons_inv
  obtain ⟨v2, vs2, rfl, r2, hA2⟩ := hA1.cons_inv
  obtain rfl := hA2.nil_inv
  obtain rfl := r1.v_inv
  obtain rfl := r2.v_inv
  refine (hcall cx.w).mono ?_
  rintro e w' ⟨rfl, rfl⟩
  have hge := grownCap_ge cx.w n 0 te
  have hcm : grownCap cx.w n 0 te ≤ maxLen := grownCap_le_maxLen cx.w n 0 te (by unfold maxLen; omega)
  generalize grownCap cx.w n 0 te = q at hge hcm
  have hpu := push_row (hrel_drew hR) te 1 q (es := List.replicate n [.v (.int .i64 0)]) (vals := List.replicate q (Value.int .i64 0)) (by omega) (fun e he => by rw [(List.mem_replicate.1 he).2]; rfl) (by simpa using hge) hcm (by simp)
    (by
      have e1 : (List.replicate n [AV.v (.int .i64 0)]).flatten = (List.replicate n (Value.int .i64 0)).map .v := by simp
      have e2 : (List.replicate q (Value.int .i64 0)).take ((List.replicate n [AV.v (.int .i64 0)]).length * 1) = List.replicate n (Value.int .i64 0) := by simp [hge]
      rw [e1, e2]
      exact RepL.of_v _ _ _)
    (fun x hx => by rw [(List.mem_replicate.1 hx).2]; rfl)
  refine ⟨_, .hs cx.H.length 0 0 n, ?_, hpu, (le_drew cx).trans (le_push _ _ _ _), ?_, rfl, rfl⟩
  · simp only [Cx.push, Cx.drew]
    congr 2
    rw [zeroCells_rep, zeroCells_rep]
    obtain ⟨m, rfl⟩ : ∃ m, q = n + m := ⟨q - n, by omega⟩
    simp [List.replicate_append_replicate]
  · have e1 : (Cx.push cx.drew (.cells (List.replicate q (Value.int .i64 0)).toArray te (0, 0)) (.row te 1 (List.replicate n [.v (.int .i64 0)])) q).κ cx.H.length = cx.w.heap.size := updN_same _ _ _
    have e2 : (Cx.push cx.drew (.cells (List.replicate q (Value.int .i64 0)).toArray te (0, 0)) (.row te 1 (List.replicate n [.v (.int .i64 0)])) q).γ cx.H.length = q := updN_same _ _ _
    refine .hs _ 0 0 n _ rfl (.row te 1 (List.replicate n [.v (.int .i64 0)])) (by simp [Cx.push, Cx.drew]) (.inr ⟨te, 1, _, rfl, by simp, fun _ => ⟨by omega, ?_⟩⟩)
    rw [e1, e2]; simp
end Go.Mu
