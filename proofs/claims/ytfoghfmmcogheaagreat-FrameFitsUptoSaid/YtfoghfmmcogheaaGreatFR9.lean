/- What is laid fits; no two have a name: plain laws. -/
import Derived.Test.YtfoghfmmcogheaaGreatFwSortNtoL4
set_option linter.unusedVariables false
set_option linter.unusedSimpArgs false
set_option maxHeartbeats 4000000
set_option maxRecDepth 100000
namespace Go.Proofs
open Go.Mu
theorem why_may {p : Pg} (h : whyF p = 0) : mayE p = 0 := by
  by_cases hm : mayE p = 0
  · exact hm
  · rw [whyF, if_pos hm] at h; exact absurd h hm
structure LayIn (p : Pg) (F : Fc) : Prop where
  why : whyF p = 0
  arr : ArrIn p F
  size : up16 (totV (arrV p)) ≤ 8192
  lay : (layF p).1 = ⟨laysV 0 (arrV p), up16 (totV (arrV p))⟩
  names : ((arrV p).map Vr.name).Nodup
end Go.Proofs
