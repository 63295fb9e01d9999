/- The law FnExactRulesRead hands back true. No conditions. -/
import Derived.Test.YtkdaijcdddomjaaK6
namespace Go.Proofs.Ytkdaijcdddomjaa
open Go.Pm
set_option maxRecDepth 10000
set_option linter.unusedSimpArgs false
section
variable {P : Program} [Is P]
theorem c11e (t : ByteArray) (c : Int) (h0 : decide ((t.size : Int) > 1048576) = false) (h46 : Con P 46 [.str t] (.agg [.nil, .int .i64 c])) (h47 : Con P 47 [.str t] (.agg [.nil, .int .i64 c])) : Con P 11 [.str t] (.bool true) := by
  refine Con.of (n := 44) (rs := [.tmp 2]) (Is.fn Try.func11) rfl (Is.call Try.call11) Try.results11 Try.ntmps11 trivial ?_
  simp (maxSteps := 4000000) only [method_specs_simp, seval, h0]
  refine clY.con h46 (by simp only [method_specs_simp]) ?_
  simp (maxSteps := 4000000) only [method_specs_simp, seval]
  refine clY.con h47 (by simp only [method_specs_simp]) ?_
  simp (maxSteps := 4000000) only [method_specs_simp, seval]
  refine clY.con (c48m c) (by simp only [method_specs_simp]) ?_
  simp (maxSteps := 4000000) only [method_specs_simp, seval]
  refine clY.con (c49m c 1) (by simp only [method_specs_simp]) ?_
  simp (maxSteps := 4000000) only [method_specs_simp, seval]
  refine clY.con (c50m c 1 (by omega) (by omega)) (by simp only [method_specs_simp]) ?_
  simp (maxSteps := 4000000) only [method_specs_simp, seval]
  refine clY.con h47 (by simp only [method_specs_simp]) ?_
  simp (maxSteps := 4000000) only [method_specs_simp, seval]
  refine clY.con (c48m c) (by simp only [method_specs_simp]) ?_
  simp (maxSteps := 4000000) only [method_specs_simp, seval]
  refine clY.con (c50m c 1 (by omega) (by omega)) (by simp only [method_specs_simp]) ?_
  simp (maxSteps := 4000000) only [method_specs_simp, seval]
theorem c11k (t : ByteArray) (xs : List Rule) (hx : xs.length ≤ 21) (h0 : decide ((t.size : Int) > 1048576) = false) (h46 : Con P 46 [.str t] (.agg [.sl 4 (xs.map encRule), .int .i64 0])) (h47 : NCon P 47 [.str t] (.agg [.ar 0 0 xs.length, .int .i64 0]) [.arr true 4 (xs.map encRule)]) : Con P 11 [.str t] (.bool true) := by
  have hk2 : decide (1 + 4 * (xs.length : Int) < 0) = false := by simp; omega
  have hh := c50 (P := P) 0 1 xs.length (by omega) (by omega) (by omega)
  refine Con.of (n := 44) (rs := [.tmp 2]) (Is.fn Try.func11) rfl (Is.call Try.call11) Try.results11 Try.ntmps11 trivial ?_
  simp (maxSteps := 4000000) only [method_specs_simp, seval, h0]
  refine clY.con h46 (by simp only [method_specs_simp]) ?_
  simp (maxSteps := 4000000) only [method_specs_simp, seval]
  refine clY.new h47 (by simp only [method_specs_simp]) ?_
  simp (maxSteps := 4000000) only [method_specs_simp, seval]
  refine clY.conF (c48 0 xs (by omega)) (by simp only [method_specs_simp]) (by simp only [method_specs_simp]) trivial ?_
  simp (maxSteps := 4000000) only [method_specs_simp, seval]
  refine clY.live [1] [] (n49 0 1 xs (by omega) (by omega) (by omega)) ?_ (Nat.le_refl _) ?_
  · simp only [mvcgen_simp, method_specs_simp, seval]
  simp (maxSteps := 4000000) only [method_specs_simp, seval]
  refine clY.conF hh (by simp only [method_specs_simp]) (by simp only [method_specs_simp]) trivial ?_
  simp (maxSteps := 4000000) only [method_specs_simp, seval, hk2, bne_self_eq_false]
  refine clY.new h47 (by simp only [method_specs_simp]) ?_
  simp (maxSteps := 4000000) only [method_specs_simp, seval]
  refine clY.conF (c48 0 xs (by omega)) (by simp only [method_specs_simp]) (by simp only [method_specs_simp]) trivial ?_
  simp (maxSteps := 4000000) only [method_specs_simp, seval]
  refine clY.conF hh (by simp only [method_specs_simp]) (by simp only [method_specs_simp]) trivial ?_
  simp (maxSteps := 4000000) only [method_specs_simp, seval, hk2, bne_self_eq_false]
theorem c11 (t : ByteArray) : Con P 11 [.str t] (.bool true) := by
  by_cases h0 : decide ((t.size : Int) > 1048576) = true
  · refine Con.of (n := 44) (rs := [.tmp 2]) (Is.fn Try.func11) rfl (Is.call Try.call11) Try.results11 Try.ntmps11 trivial ?_
    simp (maxSteps := 4000000) only [method_specs_simp, seval, h0]
  · have h0 : decide ((t.size : Int) > 1048576) = false := by simpa using h0
    by_cases ht : t.size ≤ 8000
    · have h46 := c46 (P := P) t ht
      rw [okSI] at h46
      cases ok : okI t with
      | true =>
        rw [ok, if_pos rfl, list_same ok] at h46
        exact c11k t (iRead t).1 (iRead_len t) h0 h46 (n47 t ht ok)
      | false =>
        rw [ok, if_neg (by simp)] at h46
        exact c11e t 3 h0 h46 (c47e t ht ok)
    · exact c11e t 2 h0 (c46s t (by omega)) (c47s t (by omega))
end
end Go.Proofs.Ytkdaijcdddomjaa
