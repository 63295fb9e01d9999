/- The law FnExactStateApply hands back true. No conditions but lengths below 2 to the 62. -/
import Derived.Test.YtkdaijcdddomjaaS11
namespace Go.Proofs.Ytkdaijcdddomjaa
open Go.Pm
set_option maxRecDepth 10000
set_option linter.unusedSimpArgs false
set_option linter.unusedVariables false
section
variable {P : Program} [Is P]
theorem c13e (xs ds : List Ent) (c : Int) (hl : xs.length + ds.length ≤ 1048576) (h61 : Con P 61 [.sl 3 (xs.map encEnt), .sl 3 (ds.map encEnt)] (.agg [.nil, .int .i64 c])) (h62 : Con P 62 [.sl 3 (xs.map encEnt), .sl 3 (ds.map encEnt)] (.agg [.nil, .int .i64 c])) : Con P 13 [.sl 3 (xs.map encEnt), .sl 3 (ds.map encEnt)] (.bool true) := by
  have k1 : decide (1 + 3 * (xs.length : Int) + 3 * (ds.length : Int) < 0) = false := by simp; omega
  have e1 : IntKind.i64.wrap (1048576 - (xs.length : Int)) = 1048576 - (xs.length : Int) := wrap_id (by omega) (by omega)
  have e2 : decide (1048576 - (xs.length : Int) < 0) = false := by simp; omega
  have e3 : ¬ (1048576 - (xs.length : Int) < 0) := by omega
  have f1 : IntKind.i64.wrap (1048576 - (xs.length : Int) - (ds.length : Int)) = 1048576 - (xs.length : Int) - (ds.length : Int) := wrap_id (by omega) (by omega)
  have f2 : decide (1048576 - (xs.length : Int) - (ds.length : Int) < 0) = false := by simp; omega
  have f3 : ¬ (1048576 - (xs.length : Int) - (ds.length : Int) < 0) := by omega
  have h51 := c51 (P := P) xs 1048576 (by omega)
  rw [e1, if_neg e3] at h51
  have h51' := c51 (P := P) ds (1048576 - (xs.length : Int)) (by omega)
  rw [f1, if_neg f3] at h51'
  refine Con.of (n := 92) (rs := [.tmp 4]) (Is.fn Try.func13) rfl (Is.call Try.call13) Try.results13 Try.ntmps13 trivial ?_
  simp (maxSteps := 4000000) only [method_specs_simp, seval]
  refine clY.con (h51) (by simp only [method_specs_simp]) ?_
  simp (maxSteps := 4000000) only [method_specs_simp, seval, e2]
  refine clY.con (h51') (by simp only [method_specs_simp]) ?_
  simp (maxSteps := 4000000) only [method_specs_simp, seval, f2]
  refine clY.con (c53 xs (by omega)) (by simp only [method_specs_simp]) ?_
  simp (maxSteps := 4000000) only [method_specs_simp, seval]
  refine clY.con (c53 ds (by omega)) (by simp only [method_specs_simp]) ?_
  simp (maxSteps := 4000000) only [method_specs_simp, seval]
  refine clY.con (h61) (by simp only [method_specs_simp]) ?_
  simp (maxSteps := 4000000) only [method_specs_simp, seval]
  refine clY.new (n53 xs (by omega)) (by simp only [method_specs_simp]) ?_
  simp (maxSteps := 4000000) only [method_specs_simp, seval]
  refine clY.new (n53 ds (by omega)) (by simp only [method_specs_simp]) ?_
  simp (maxSteps := 4000000) only [method_specs_simp, seval]
  refine clY.conF h62 (by simp only [method_specs_simp]) (by simp only [method_specs_simp]) ⟨trivial, trivial, trivial⟩ ?_
  simp (maxSteps := 4000000) only [method_specs_simp, seval]
  refine clY.con (c56m c) (by simp only [method_specs_simp]) ?_
  simp (maxSteps := 4000000) only [method_specs_simp, seval]
  refine clY.con (c53 xs (by omega)) (by simp only [method_specs_simp]) ?_
  simp (maxSteps := 4000000) only [method_specs_simp, seval]
  refine clY.conF (c57 xs xs (by omega)) (by simp only [method_specs_simp]) (by simp only [method_specs_simp]) trivial ?_
  simp (maxSteps := 4000000) only [method_specs_simp, seval, eqEntS_same]
  refine clY.con (c53 ds (by omega)) (by simp only [method_specs_simp]) ?_
  simp (maxSteps := 4000000) only [method_specs_simp, seval]
  refine clY.conF (c57 ds ds (by omega)) (by simp only [method_specs_simp]) (by simp only [method_specs_simp]) trivial ?_
  simp (maxSteps := 4000000) only [method_specs_simp, seval, eqEntS_same]
  refine clY.live [1] [] (n58 xs 1 (by omega) (by omega) (by omega)) ?_ (by simp) ?_
  · simp only [mvcgen_simp, method_specs_simp, seval]
  simp (maxSteps := 4000000) only [method_specs_simp, seval]
  refine clY.live [2] [] (n58 ds (1 + 3 * (xs.length : Int)) (by omega) (by omega) (by omega)) ?_ (by simp) ?_
  · simp only [mvcgen_simp, method_specs_simp, seval]
  simp (maxSteps := 4000000) only [method_specs_simp, seval, k1]
  refine clY.con (c56m c) (by simp only [method_specs_simp]) ?_
  simp (maxSteps := 4000000) only [method_specs_simp, seval]
  refine clY.con (c59m c 1) (by simp only [method_specs_simp]) ?_
  simp (maxSteps := 4000000) only [method_specs_simp, seval]
  refine clY.con (c60m c 1 (by omega) (by omega)) (by simp only [method_specs_simp]) ?_
  simp (maxSteps := 4000000) only [method_specs_simp, seval]
  refine clY.con (c53 xs (by omega)) (by simp only [method_specs_simp]) ?_
  simp (maxSteps := 4000000) only [method_specs_simp, seval]
  refine clY.con (c53 ds (by omega)) (by simp only [method_specs_simp]) ?_
  simp (maxSteps := 4000000) only [method_specs_simp, seval]
  refine clY.con (h62) (by simp only [method_specs_simp]) ?_
  simp (maxSteps := 4000000) only [method_specs_simp, seval]
  refine clY.con (c56m c) (by simp only [method_specs_simp]) ?_
  simp (maxSteps := 4000000) only [method_specs_simp, seval]
  refine clY.con (c60m c 1 (by omega) (by omega)) (by simp only [method_specs_simp]) ?_
  simp (maxSteps := 4000000) only [method_specs_simp, seval]
theorem c13k (xs ds ys : List Ent) (hl : xs.length + ds.length ≤ 1048576) (hy : ys.length ≤ 1048577) (h61 : Con P 61 [.sl 3 (xs.map encEnt), .sl 3 (ds.map encEnt)] (.agg [.sl 3 (ys.map encEnt), .int .i64 0])) (h62 : NCon P 62 [.sl 3 (xs.map encEnt), .sl 3 (ds.map encEnt)] (.agg [.ar 0 0 ys.length, .int .i64 0]) [.arr true 3 (ys.map encEnt)]) : Con P 13 [.sl 3 (xs.map encEnt), .sl 3 (ds.map encEnt)] (.bool true) := by
  have k1 : decide (1 + 3 * (xs.length : Int) + 3 * (ds.length : Int) < 0) = false := by simp; omega
  have k2 : decide (1 + 3 * (ys.length : Int) < 0) = false := by simp; omega
  have e1 : IntKind.i64.wrap (1048576 - (xs.length : Int)) = 1048576 - (xs.length : Int) := wrap_id (by omega) (by omega)
  have e2 : decide (1048576 - (xs.length : Int) < 0) = false := by simp; omega
  have e3 : ¬ (1048576 - (xs.length : Int) < 0) := by omega
  have f1 : IntKind.i64.wrap (1048576 - (xs.length : Int) - (ds.length : Int)) = 1048576 - (xs.length : Int) - (ds.length : Int) := wrap_id (by omega) (by omega)
  have f2 : decide (1048576 - (xs.length : Int) - (ds.length : Int) < 0) = false := by simp; omega
  have f3 : ¬ (1048576 - (xs.length : Int) - (ds.length : Int) < 0) := by omega
  have h51 := c51 (P := P) xs 1048576 (by omega)
  rw [e1, if_neg e3] at h51
  have h51' := c51 (P := P) ds (1048576 - (xs.length : Int)) (by omega)
  rw [f1, if_neg f3] at h51'
  have hh := c60 (P := P) 0 1 ys.length (by omega) (by omega) (by omega)
  refine Con.of (n := 92) (rs := [.tmp 4]) (Is.fn Try.func13) rfl (Is.call Try.call13) Try.results13 Try.ntmps13 trivial ?_
  simp (maxSteps := 4000000) only [method_specs_simp, seval]
  refine clY.con (h51) (by simp only [method_specs_simp]) ?_
  simp (maxSteps := 4000000) only [method_specs_simp, seval, e2]
  refine clY.con (h51') (by simp only [method_specs_simp]) ?_
  simp (maxSteps := 4000000) only [method_specs_simp, seval, f2]
  refine clY.con (c53 xs (by omega)) (by simp only [method_specs_simp]) ?_
  simp (maxSteps := 4000000) only [method_specs_simp, seval]
  refine clY.con (c53 ds (by omega)) (by simp only [method_specs_simp]) ?_
  simp (maxSteps := 4000000) only [method_specs_simp, seval]
  refine clY.con (h61) (by simp only [method_specs_simp]) ?_
  simp (maxSteps := 4000000) only [method_specs_simp, seval]
  refine clY.new (n53 xs (by omega)) (by simp only [method_specs_simp]) ?_
  simp (maxSteps := 4000000) only [method_specs_simp, seval]
  refine clY.new (n53 ds (by omega)) (by simp only [method_specs_simp]) ?_
  simp (maxSteps := 4000000) only [method_specs_simp, seval]
  refine clY.newF h62 (by simp only [method_specs_simp]) (by simp only [method_specs_simp]) ⟨trivial, trivial, trivial⟩ (flat1 ⟨rfl, flat_ents _⟩) ?_
  simp (maxSteps := 4000000) only [method_specs_simp, seval]
  refine clY.conF (c56 0 ys (by omega)) (by simp only [method_specs_simp]) (by simp only [method_specs_simp]) trivial ?_
  simp (maxSteps := 4000000) only [method_specs_simp, seval]
  refine clY.con (c53 xs (by omega)) (by simp only [method_specs_simp]) ?_
  simp (maxSteps := 4000000) only [method_specs_simp, seval]
  refine clY.conF (c57 xs xs (by omega)) (by simp only [method_specs_simp]) (by simp only [method_specs_simp]) trivial ?_
  simp (maxSteps := 4000000) only [method_specs_simp, seval, eqEntS_same]
  refine clY.con (c53 ds (by omega)) (by simp only [method_specs_simp]) ?_
  simp (maxSteps := 4000000) only [method_specs_simp, seval]
  refine clY.conF (c57 ds ds (by omega)) (by simp only [method_specs_simp]) (by simp only [method_specs_simp]) trivial ?_
  simp (maxSteps := 4000000) only [method_specs_simp, seval, eqEntS_same]
  refine clY.live [1] [] (n58 xs 1 (by omega) (by omega) (by omega)) ?_ (by simp) ?_
  · simp only [mvcgen_simp, method_specs_simp, seval]
  simp (maxSteps := 4000000) only [method_specs_simp, seval]
  refine clY.live [2] [] (n58 ds (1 + 3 * (xs.length : Int)) (by omega) (by omega) (by omega)) ?_ (by simp) ?_
  · simp only [mvcgen_simp, method_specs_simp, seval]
  simp (maxSteps := 4000000) only [method_specs_simp, seval, k1]
  refine clY.conF (c56 0 ys (by omega)) (by simp only [method_specs_simp]) (by simp only [method_specs_simp]) trivial ?_
  simp (maxSteps := 4000000) only [method_specs_simp, seval]
  refine clY.live [3] [] (n59 0 1 ys (by omega) (by omega) (by omega)) ?_ (by simp) ?_
  · simp only [mvcgen_simp, method_specs_simp, seval]
  simp (maxSteps := 4000000) only [method_specs_simp, seval]
  refine clY.conF (hh) (by simp only [method_specs_simp]) (by simp only [method_specs_simp]) trivial ?_
  simp (maxSteps := 4000000) only [method_specs_simp, seval, k2, bne_self_eq_false]
  refine clY.con (c53 xs (by omega)) (by simp only [method_specs_simp]) ?_
  simp (maxSteps := 4000000) only [method_specs_simp, seval]
  refine clY.con (c53 ds (by omega)) (by simp only [method_specs_simp]) ?_
  simp (maxSteps := 4000000) only [method_specs_simp, seval]
  refine clY.new h62 (by simp only [method_specs_simp]) ?_
  simp (maxSteps := 4000000) only [method_specs_simp, seval]
  refine clY.conF (c56 0 ys (by omega)) (by simp only [method_specs_simp]) (by simp only [method_specs_simp]) trivial ?_
  simp (maxSteps := 4000000) only [method_specs_simp, seval]
  refine clY.conF (hh) (by simp only [method_specs_simp]) (by simp only [method_specs_simp]) trivial ?_
  simp (maxSteps := 4000000) only [method_specs_simp, seval, k2, bne_self_eq_false]
theorem c13 (xs ds : List Ent) (hx : xs.length < 2 ^ 62) (hd : ds.length < 2 ^ 62) : Con P 13 [.sl 3 (xs.map encEnt), .sl 3 (ds.map encEnt)] (.bool true) := by
  by_cases hl : xs.length ≤ 1048576
  · by_cases hl2 : xs.length + ds.length ≤ 1048576
    · by_cases h4 : xs.length ≤ 400 ∧ ds.length ≤ 400
      · obtain ⟨hx4, hd4⟩ := h4
        cases hc : okRow (entI 1) xs && okRow (entI 0) ds with
        | true =>
          obtain ⟨h1, h2⟩ := Bool.and_eq_true_iff.1 hc
          exact c13k xs ds (applyI xs ds) hl2 (by have := applyI_len ds xs; omega) (c61 xs ds hx4 hd4 h1 h2) (n62 xs ds hx4 hd4 h1 h2)
        | false => exact c13e xs ds 1 hl2 (c61e xs ds hx4 hd4 hc) (c62e xs ds hx4 hd4 hc)
      · exact c13e xs ds 2 hl2 (c61s xs ds h4) (c62s xs ds h4)
    · have e1 : IntKind.i64.wrap (1048576 - (xs.length : Int)) = 1048576 - (xs.length : Int) := wrap_id (by omega) (by omega)
      have e2 : decide (1048576 - (xs.length : Int) < 0) = false := by simp; omega
      have e3 : ¬ (1048576 - (xs.length : Int) < 0) := by omega
      have f1 : IntKind.i64.wrap (1048576 - (xs.length : Int) - (ds.length : Int)) = 1048576 - (xs.length : Int) - (ds.length : Int) := wrap_id (by omega) (by omega)
      have h51 := c51 (P := P) xs 1048576 (by omega)
      rw [e1, if_neg e3] at h51
      have h51' := c51 (P := P) ds (1048576 - (xs.length : Int)) (by omega)
      rw [f1, if_pos (by omega)] at h51'
      refine Con.of (n := 92) (rs := [.tmp 4]) (Is.fn Try.func13) rfl (Is.call Try.call13) Try.results13 Try.ntmps13 trivial ?_
      simp (maxSteps := 4000000) only [method_specs_simp, seval]
      refine clY.con h51 (by simp only [method_specs_simp]) ?_
      simp (maxSteps := 4000000) only [method_specs_simp, seval, e2]
      refine clY.con h51' (by simp only [method_specs_simp]) ?_
      simp (maxSteps := 4000000) only [method_specs_simp, seval]
  · have e1 : IntKind.i64.wrap (1048576 - (xs.length : Int)) = 1048576 - (xs.length : Int) := wrap_id (by omega) (by omega)
    have h51 := c51 (P := P) xs 1048576 hx
    rw [e1, if_pos (by omega)] at h51
    refine Con.of (n := 92) (rs := [.tmp 4]) (Is.fn Try.func13) rfl (Is.call Try.call13) Try.results13 Try.ntmps13 trivial ?_
    simp (maxSteps := 4000000) only [method_specs_simp, seval]
    refine clY.con h51 (by simp only [method_specs_simp]) ?_
    simp (maxSteps := 4000000) only [method_specs_simp, seval]
end
end Go.Proofs.Ytkdaijcdddomjaa
