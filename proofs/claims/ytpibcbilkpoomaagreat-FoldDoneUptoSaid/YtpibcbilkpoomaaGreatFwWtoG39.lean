/- What a function knows of its slots and of own memory may be told in other words on the way. -/
import Derived.Test.YtpibcbilkpoomaaGreatFwVtoG37
set_option linter.unusedVariables false
set_option linter.unusedSimpArgs false
set_option maxHeartbeats 4000000
set_option maxRecDepth 100000
namespace Go.Mu
open Go.RowKit (Below)
section
variable {P : Program} {n : Nat} {c : Code} {Q : AQ}
theorem awp_give {f : Fr} {H : List Blk} (k sz : Nat) (t : TypeId) (es : List (List AV)) (hk : H[k]? = some (.row t sz es)) (hz : es.flatten.all AV.frzB = true)
    (h : AWP P n c Q (fun t => (f t).frz k sz es) (frzH k sz es H) []) : AWP P n c Q f H [] := by
  intro ro hro B w0 cx0 cx a h1 h2 h3 h4 h5
  subst h3
  refine h ro hro B w0 cx0 (cx.frz k sz es) a (hrel_frz h1 hk hz) (h2.trans (le_frz hk)) rfl ⟨h4.1, fun t ht => rep_frz h1 hk hz (h4.2 t ht)⟩ ?_
  cases hd : a.defers with
  | nil => trivial
  | cons d l => rw [hd] at h5; exact h5.elim
end
end Go.Mu
namespace Go.Proofs
open Go.Mu
theorem thenE_0 {a b : Int} (h : thenE a b = 0) : a = 0 ∧ b = 0 := by
  unfold thenE at h
  split at h
  · rename_i ha; exact ⟨ha, h⟩
  · rename_i ha; exact absurd h ha
theorem mustE_0 {b : Bool} {e : Int} (he : e ≠ 0) (h : mustE b e = 0) : b = true := by
  unfold mustE at h
  split at h
  · assumption
  · exact absurd h he
structure Kept (B : Nat) (H : List Blk) (h : Option Nat) (H' : List Blk) (h' : Option Nat) : Prop where
  pre : ∀ M : List Blk, M.length = B → (∃ L, H = M ++ L) → ∃ L, H' = M ++ L
  old : ∀ i b, H[i]? = some b → h ≠ some i → H'[i]? = some b
  apart : ∀ j, j < H.length → h ≠ some j → h' ≠ some j
end Go.Proofs
namespace Go.Proofs
open Go.Mu
structure Pg.Ok3 (p : Pg) : Prop where
  ok : p.Ok2
  total : funcsNum p.funcs ≤ 2^50
end Go.Proofs
