/- The law of Allowed: for every graph, state and event. No conditions but the sizes that an input has. -/
import Derived.Test.YtkcllejnmpnjfaaG9
namespace Go.Proofs.Ytkcllejnmpnjfaa
open Go.Pm
open Go.Gm (Ev Gr)
set_option maxRecDepth 10000
set_option linter.unusedSimpArgs false
set_option linter.unusedVariables false
section
variable {P : Program} [Is P]
theorem wG_nn (g : Gr) : 0 ≤ wG g := by
  have n1 := wEs_nn g.events
  have n2 := wEs_nn g.parked
  unfold wG
  omega
theorem sb_yes {l w : Int} (hw : 0 ≤ w) (h : decide (sb l w < 0) = !true) : sb l w = l - w ∧ l - w ≤ l ∧ 0 ≤ l - w := by
  unfold sb at *
  simp only [Bool.not_true, decide_eq_false_iff_not] at h
  split at h
  · omega
  · rename_i h2
    rw [if_neg h2]
    omega
end
end Go.Proofs.Ytkcllejnmpnjfaa
