/- The law of Allowed: for every graph, state and event. No conditions but the sizes that an input has. -/
import Derived.Test.YtijkkaoeijigkaaG9
namespace Go.Proofs.Ytijkkaoeijigkaa
open Go.Pm
open Go.Gm (Ev Gr)
set_option maxRecDepth 10000
set_option linter.unusedSimpArgs false
set_option linter.unusedVariables false
section
variable {P : Program} [Is P]
theorem wG_nn (g : Gr) : 0 ≤ wG g := by
  have n1 := wEs_nn g.events
  have n2 := wEs_nn g.parked
  unfold wG
  omega
theorem sb_yes {l w : Int} (hw : 0 ≤ w) (h : decide (sb l w < 0) = !true) : sb l w = l - w ∧ l - w ≤ l ∧ 0 ≤ l - w := by
  unfold sb at *
  simp only [Bool.not_true, decide_eq_false_iff_not] at h
  split at h
  · omega
  · rename_i h2
    rw [if_neg h2]
    omega
theorem c_FnExactAllowed (g : Gr) (s : List Ent) (e : Ev) (hg : GrOK g) (he : EvOK e) (hl : s.length * 24 ≤ 2 ^ 47) : Con P 5 [.agg (encGr g), .sl 3 (s.map encEnt), .agg (encEv e)] (.bool true) := by
  refine Con.of (n := 63) (rs := [.tmp 6]) (Is.fn Try.func5) rfl (Is.call Try.call5) Try.results5 Try.ntmps5 trivial ?_
  simp (maxSteps := 4000000) only [method_specs_simp, seval, encGr, encEv]
  refine clY.con (c_szGraph g 1048576 (by decide) (by decide) hg) (by simp only [method_specs_simp, encGr, encEv]) ?_
  simp (maxSteps := 4000000) only [method_specs_simp, seval, encGr, encEv]
  refine gB_split (fun _ => trivial) (fun w1 => ?_)
  obtain ⟨q1, q2, q3⟩ := sb_yes (wG_nn g) w1
  rw [q1]
  refine clY.con (c51 s _ (by omega)) (by simp only [method_specs_simp, encGr, encEv]) ?_
  simp (maxSteps := 4000000) only [method_specs_simp, seval, encGr, encEv]
  rw [wrap_id (by omega) (by omega)]
  refine gB_split (fun _ => trivial) (fun w2 => ?_)
  obtain ⟨q4, q5, q6⟩ := sb_yes (l := 1048576 - wG g) (w := s.length) (by omega) w2
  unfold sb at q4
  rw [q4]
  refine clY.con (c_szEvent e _ q6 (by omega) he) (by simp only [method_specs_simp, encGr, encEv]) ?_
  simp (maxSteps := 4000000) only [method_specs_simp, seval, encGr, encEv]
  refine gB_split (fun _ => trivial) (fun w3 => ?_)
  refine ⟨by kernel_rfl, ?_⟩
  refine clY.con (c_toGraph g hg) (by simp only [method_specs_simp, encGr, encEv]) ?_
  simp (maxSteps := 4000000) only [method_specs_simp, seval, encGr, encEv]
  refine clY.con (c53 s (by omega)) (by simp only [method_specs_simp, encGr, encEv]) ?_
  simp (maxSteps := 4000000) only [method_specs_simp, seval, encGr, encEv]
  refine clY.con (c_toEvent e he) (by simp only [method_specs_simp, encGr, encEv]) ?_
  simp (maxSteps := 4000000) only [method_specs_simp, seval, encGr, encEv]
  refine clY.con (c_specAllowed g s e hg he hl) (by simp only [method_specs_simp, encGr, encEv]) ?_
  simp (maxSteps := 4000000) only [method_specs_simp, seval, encGr, encEv]
  refine clY.con (c_toGraph g hg) (by simp only [method_specs_simp, encGr, encEv]) ?_
  simp (maxSteps := 4000000) only [method_specs_simp, seval, encGr, encEv]
  refine clY.con (c53 s (by omega)) (by simp only [method_specs_simp, encGr, encEv]) ?_
  simp (maxSteps := 4000000) only [method_specs_simp, seval, encGr, encEv]
  refine clY.con (c_toEvent e he) (by simp only [method_specs_simp, encGr, encEv]) ?_
  simp (maxSteps := 4000000) only [method_specs_simp, seval, encGr, encEv]
  refine clY.con (c_Allowed g s e hg he hl) (by simp only [method_specs_simp, encGr, encEv]) ?_
  simp (maxSteps := 4000000) only [method_specs_simp, seval, encGr, encEv, bne_self_eq_false]
  refine ⟨by kernel_rfl, ?_⟩
  refine clY.con (c_toGraph g hg) (by simp only [method_specs_simp, encGr, encEv]) ?_
  simp (maxSteps := 4000000) only [method_specs_simp, seval, encGr, encEv]
  refine clY.con (c_eqGraph g hg) (by simp only [method_specs_simp, encGr, encEv]) ?_
  simp (maxSteps := 4000000) only [method_specs_simp, seval, encGr, encEv, Bool.not_true]
  refine clY.con (c53 s (by omega)) (by simp only [method_specs_simp, encGr, encEv]) ?_
  simp (maxSteps := 4000000) only [method_specs_simp, seval, encGr, encEv]
  refine clY.con (c57 s s (by omega)) (by simp only [method_specs_simp, encGr, encEv]) ?_
  simp (maxSteps := 4000000) only [method_specs_simp, seval, encGr, encEv, eqEntS_same, Bool.not_true]
  refine ⟨by kernel_rfl, ?_⟩
  refine clY.con (c_toEvent e he) (by simp only [method_specs_simp, encGr, encEv]) ?_
  simp (maxSteps := 4000000) only [method_specs_simp, seval, encGr, encEv]
  refine clY.con (c_eqEvent e he) (by simp only [method_specs_simp, encGr, encEv]) ?_
  simp (maxSteps := 4000000) only [method_specs_simp, seval, encGr, encEv, Bool.not_true]
end
end Go.Proofs.Ytijkkaoeijigkaa
