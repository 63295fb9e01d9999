/- The law FnExactRulesBytes hands back true. No conditions but a length below 2 to the 62. -/
import Derived.Test.YtkdaijcdddomjaaJ4
namespace Go.Proofs.Ytkdaijcdddomjaa
open Go.Pm
set_option maxRecDepth 10000
set_option linter.unusedSimpArgs false
section
variable {P : Program} [Is P]
theorem c5 (xs : List Rule) (hx : xs.length < 2 ^ 62) : Con P 5 [.sl 4 (xs.map encRule)] (.bool true) := by
  have e6 : ∀ a : ByteArray, (a.toList == a.toList) = true := fun a => by simp
  obtain ⟨s, h25, h26⟩ : ∃ s, Con P 25 [.sl 4 (xs.map encRule)] (.str s) ∧ Con P 26 [.sl 4 (xs.map encRule)] (.str s) := by
    cases ok : rulesOk xs with
    | true => exact ⟨_, c25 xs ok, c26 xs ok⟩
    | false => exact ⟨_, c25e xs hx ok, c26e xs hx ok⟩
  refine Con.of (n := 27) (rs := [.tmp 2]) (Is.fn Try.func5) rfl (Is.call Try.call5) Try.results5 Try.ntmps5 trivial ?_
  simp (maxSteps := 4000000) only [method_specs_simp, seval]
  refine clY.con (c20 _ _ hx) (by simp only [method_specs_simp]) ?_
  simp (maxSteps := 4000000) only [method_specs_simp, seval]
  refine gB_split (fun h => ?_) (fun h => ?_)
  · trivial
  · have hl := hlr_of hx h
    refine clY.con (c22 _ (by omega)) (by simp only [method_specs_simp]) ?_
    simp (maxSteps := 4000000) only [method_specs_simp, seval]
    refine clY.con h25 (by simp only [method_specs_simp]) ?_
    simp (maxSteps := 4000000) only [method_specs_simp, seval]
    refine clY.con (c22 _ (by omega)) (by simp only [method_specs_simp]) ?_
    simp (maxSteps := 4000000) only [method_specs_simp, seval]
    refine clY.con h26 (by simp only [method_specs_simp]) ?_
    simp (maxSteps := 4000000) only [method_specs_simp, seval, e6]
    refine clY.con (c22 _ (by omega)) (by simp only [method_specs_simp]) ?_
    simp (maxSteps := 4000000) only [method_specs_simp, seval]
    refine clY.con (c24 _ _ hx) (by simp only [method_specs_simp]) ?_
    simp (maxSteps := 4000000) only [method_specs_simp, seval, eqRuleS_same]
end
end Go.Proofs.Ytkdaijcdddomjaa
