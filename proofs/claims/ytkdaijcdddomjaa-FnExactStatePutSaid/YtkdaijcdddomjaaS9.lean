/- The law FnExactStatePut hands back true. No conditions but a length below 2 to the 62. -/
import Derived.Test.YtkdaijcdddomjaaS8
namespace Go.Proofs.Ytkdaijcdddomjaa
open Go.Pm
set_option maxRecDepth 10000
set_option linter.unusedSimpArgs false
set_option linter.unusedVariables false
section
variable {P : Program} [Is P]
theorem c12e (xs : List Ent) (x : Ent) (c : Int) (hl : xs.length ≤ 1048576) (h52 : Con P 52 [.sl 3 (xs.map encEnt), .agg (encEnt x)] (.agg [.nil, .int .i64 c])) (h55 : Con P 55 [.sl 3 (xs.map encEnt), .agg (encEnt x)] (.agg [.nil, .int .i64 c])) : Con P 12 [.sl 3 (xs.map encEnt), .agg (encEnt x)] (.bool true) := by
  have hfold : [V.int .i64 x.kind, V.int .i64 x.key, V.int .i64 x.id] = encEnt x := rfl
  have hk : decide (1 + 3 * (xs.length : Int) < 0) = false := by simp; omega
  have e1 : IntKind.i64.wrap (1048576 - (xs.length : Int)) = 1048576 - (xs.length : Int) := wrap_id (by omega) (by omega)
  have e2 : decide (1048576 - (xs.length : Int) < 0) = false := by simp; omega
  have e3 : ¬ (1048576 - (xs.length : Int) < 0) := by omega
  refine Con.of (n := 77) (rs := [.tmp 4]) (Is.fn Try.func12) rfl (Is.call Try.call12) Try.results12 Try.ntmps12 trivial ?_
  simp (maxSteps := 4000000) only [method_specs_simp, seval, encEnt]
  have h51 := c51 (P := P) xs 1048576 (by omega)
  rw [e1, if_neg e3] at h51
  refine clY.con h51 (by simp only [method_specs_simp]) ?_
  simp (maxSteps := 4000000) only [method_specs_simp, seval, encEnt, e2]
  refine ⟨by kernel_rfl, ?_⟩
  refine clY.con (c53 xs (by omega)) (by simp only [method_specs_simp]) ?_
  simp (maxSteps := 4000000) only [method_specs_simp, seval, encEnt]
  refine clY.con (c54 x) (by simp only [method_specs_simp, encEnt]) ?_
  simp (maxSteps := 4000000) only [method_specs_simp, seval]
  refine clY.con h52 (by simp only [method_specs_simp, encEnt]) ?_
  simp (maxSteps := 4000000) only [method_specs_simp, seval]
  refine clY.new (n53 xs (by omega)) (by simp only [method_specs_simp]) ?_
  simp (maxSteps := 4000000) only [method_specs_simp, seval, encEnt]
  refine clY.con (c54 x) (by simp only [method_specs_simp, encEnt]) ?_
  simp (maxSteps := 4000000) only [method_specs_simp, seval]
  refine clY.conF h55 (by simp only [method_specs_simp, encEnt]) ⟨of_eq_true (encEnt_refs _ xs), of_eq_true (encEnt_refs1 _ x), trivial⟩ ⟨trivial, trivial, trivial⟩ ?_
  simp (maxSteps := 4000000) only [method_specs_simp, seval]
  refine clY.con (c56m c) (by simp only [method_specs_simp]) ?_
  simp (maxSteps := 4000000) only [method_specs_simp, seval]
  refine clY.con (c53 xs (by omega)) (by simp only [method_specs_simp]) ?_
  simp (maxSteps := 4000000) only [method_specs_simp, seval]
  refine clY.conF (c57 xs xs (by omega)) (by simp only [method_specs_simp]) (by simp only [method_specs_simp]) trivial ?_
  simp (maxSteps := 4000000) only [method_specs_simp, seval, eqEntS_same]
  refine clY.live [2] [] (n58 xs 1 (by omega) (by omega) (by omega)) ?_ (by simp) ?_
  · simp only [mvcgen_simp, method_specs_simp, seval]
  simp (maxSteps := 4000000) only [method_specs_simp, seval, hk]
  refine clY.con (c56m c) (by simp only [method_specs_simp]) ?_
  simp (maxSteps := 4000000) only [method_specs_simp, seval]
  refine clY.con (c59m c 1) (by simp only [method_specs_simp]) ?_
  simp (maxSteps := 4000000) only [method_specs_simp, seval]
  refine clY.con (c60m c 1 (by omega) (by omega)) (by simp only [method_specs_simp]) ?_
  simp (maxSteps := 4000000) only [method_specs_simp, seval, encEnt]
  refine ⟨by kernel_rfl, ?_⟩
  refine clY.con (c53 xs (by omega)) (by simp only [method_specs_simp]) ?_
  simp (maxSteps := 4000000) only [method_specs_simp, seval, encEnt]
  refine clY.con (c54 x) (by simp only [method_specs_simp, encEnt]) ?_
  simp (maxSteps := 4000000) only [method_specs_simp, seval]
  refine clY.con h55 (by simp only [method_specs_simp, encEnt]) ?_
  simp (maxSteps := 4000000) only [method_specs_simp, seval]
  refine clY.con (c56m c) (by simp only [method_specs_simp]) ?_
  simp (maxSteps := 4000000) only [method_specs_simp, seval]
  refine clY.con (c60m c 1 (by omega) (by omega)) (by simp only [method_specs_simp]) ?_
  simp (maxSteps := 4000000) only [method_specs_simp, seval]
theorem c12k (xs ys : List Ent) (x : Ent) (hl : xs.length ≤ 1048576) (hy : ys.length ≤ 1048577) (h52 : Con P 52 [.sl 3 (xs.map encEnt), .agg (encEnt x)] (.agg [.sl 3 (ys.map encEnt), .int .i64 0])) (h55 : NCon P 55 [.sl 3 (xs.map encEnt), .agg (encEnt x)] (.agg [.ar 0 0 ys.length, .int .i64 0]) [.arr true 3 (ys.map encEnt)]) : Con P 12 [.sl 3 (xs.map encEnt), .agg (encEnt x)] (.bool true) := by
  have hk : decide (1 + 3 * (xs.length : Int) < 0) = false := by simp; omega
  have hk2 : decide (1 + 3 * (ys.length : Int) < 0) = false := by simp; omega
  have e1 : IntKind.i64.wrap (1048576 - (xs.length : Int)) = 1048576 - (xs.length : Int) := wrap_id (by omega) (by omega)
  have e2 : decide (1048576 - (xs.length : Int) < 0) = false := by simp; omega
  have e3 : ¬ (1048576 - (xs.length : Int) < 0) := by omega
  have hh := c60 (P := P) 0 1 ys.length (by omega) (by omega) (by omega)
  refine Con.of (n := 77) (rs := [.tmp 4]) (Is.fn Try.func12) rfl (Is.call Try.call12) Try.results12 Try.ntmps12 trivial ?_
  simp (maxSteps := 4000000) only [method_specs_simp, seval, encEnt]
  have h51 := c51 (P := P) xs 1048576 (by omega)
  rw [e1, if_neg e3] at h51
  refine clY.con h51 (by simp only [method_specs_simp]) ?_
  simp (maxSteps := 4000000) only [method_specs_simp, seval, encEnt, e2]
  refine ⟨by kernel_rfl, ?_⟩
  refine clY.con (c53 xs (by omega)) (by simp only [method_specs_simp]) ?_
  simp (maxSteps := 4000000) only [method_specs_simp, seval, encEnt]
  refine clY.con (c54 x) (by simp only [method_specs_simp, encEnt]) ?_
  simp (maxSteps := 4000000) only [method_specs_simp, seval]
  refine clY.con h52 (by simp only [method_specs_simp, encEnt]) ?_
  simp (maxSteps := 4000000) only [method_specs_simp, seval]
  refine clY.new (n53 xs (by omega)) (by simp only [method_specs_simp]) ?_
  simp (maxSteps := 4000000) only [method_specs_simp, seval, encEnt]
  refine clY.con (c54 x) (by simp only [method_specs_simp, encEnt]) ?_
  simp (maxSteps := 4000000) only [method_specs_simp, seval]
  refine clY.newF h55 (by simp only [method_specs_simp, encEnt]) ⟨of_eq_true (encEnt_refs _ xs), of_eq_true (encEnt_refs1 _ x), trivial⟩ ⟨trivial, trivial, trivial⟩ (flat1 ⟨rfl, flat_ents _⟩) ?_
  simp (maxSteps := 4000000) only [method_specs_simp, seval]
  refine clY.conF (c56 0 ys (by omega)) (by simp only [method_specs_simp]) (by simp only [method_specs_simp]) trivial ?_
  simp (maxSteps := 4000000) only [method_specs_simp, seval]
  refine clY.con (c53 xs (by omega)) (by simp only [method_specs_simp]) ?_
  simp (maxSteps := 4000000) only [method_specs_simp, seval]
  refine clY.conF (c57 xs xs (by omega)) (by simp only [method_specs_simp]) (by simp only [method_specs_simp]) trivial ?_
  simp (maxSteps := 4000000) only [method_specs_simp, seval, eqEntS_same]
  refine clY.live [2] [] (n58 xs 1 (by omega) (by omega) (by omega)) ?_ (by simp) ?_
  · simp only [mvcgen_simp, method_specs_simp, seval]
  simp (maxSteps := 4000000) only [method_specs_simp, seval, hk]
  refine clY.conF (c56 0 ys (by omega)) (by simp only [method_specs_simp]) (by simp only [method_specs_simp]) trivial ?_
  simp (maxSteps := 4000000) only [method_specs_simp, seval]
  refine clY.live [3] [] (n59 0 1 ys (by omega) (by omega) (by omega)) ?_ (by simp) ?_
  · simp only [mvcgen_simp, method_specs_simp, seval]
  simp (maxSteps := 4000000) only [method_specs_simp, seval]
  refine clY.conF hh (by simp only [method_specs_simp]) (by simp only [method_specs_simp]) trivial ?_
  simp (maxSteps := 4000000) only [method_specs_simp, seval, hk2, bne_self_eq_false, encEnt]
  refine ⟨by kernel_rfl, ?_⟩
  refine clY.con (c53 xs (by omega)) (by simp only [method_specs_simp]) ?_
  simp (maxSteps := 4000000) only [method_specs_simp, seval, encEnt]
  refine clY.con (c54 x) (by simp only [method_specs_simp, encEnt]) ?_
  simp (maxSteps := 4000000) only [method_specs_simp, seval]
  refine clY.new h55 (by simp only [method_specs_simp, encEnt]) ?_
  simp (maxSteps := 4000000) only [method_specs_simp, seval]
  refine clY.conF (c56 0 ys (by omega)) (by simp only [method_specs_simp]) (by simp only [method_specs_simp]) trivial ?_
  simp (maxSteps := 4000000) only [method_specs_simp, seval]
  refine clY.conF hh (by simp only [method_specs_simp]) (by simp only [method_specs_simp]) trivial ?_
  simp (maxSteps := 4000000) only [method_specs_simp, seval, hk2, bne_self_eq_false]
theorem c12 (xs : List Ent) (x : Ent) (hx : xs.length < 2 ^ 62) : Con P 12 [.sl 3 (xs.map encEnt), .agg (encEnt x)] (.bool true) := by
  by_cases hl : xs.length ≤ 1048576
  · by_cases h4 : xs.length ≤ 400
    · cases hc : okRow (entI 1) xs && entI 1 x with
      | true =>
        obtain ⟨h1, h2⟩ := Bool.and_eq_true_iff.1 hc
        exact c12k xs (putI xs x) x hl (by have := putI_len xs x; omega) (c52 xs x h4 h1 h2) (n55 xs x h4 h1 h2)
      | false => exact c12e xs x 1 hl (c52e xs x h4 hc) (c55e xs x h4 hc)
    · exact c12e xs x 2 hl (c52s xs x h4) (c55s xs x h4)
  · have e1 : IntKind.i64.wrap (1048576 - (xs.length : Int)) = 1048576 - (xs.length : Int) := wrap_id (by omega) (by omega)
    refine Con.of (n := 77) (rs := [.tmp 4]) (Is.fn Try.func12) rfl (Is.call Try.call12) Try.results12 Try.ntmps12 trivial ?_
    simp (maxSteps := 4000000) only [method_specs_simp, seval, encEnt]
    have h51 := c51 (P := P) xs 1048576 hx
    rw [e1, if_pos (by omega)] at h51
    refine clY.con h51 (by simp only [method_specs_simp]) ?_
    simp (maxSteps := 4000000) only [method_specs_simp, seval, encEnt]
end
end Go.Proofs.Ytkdaijcdddomjaa
