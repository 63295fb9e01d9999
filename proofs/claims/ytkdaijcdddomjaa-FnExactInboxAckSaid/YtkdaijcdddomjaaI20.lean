/- The law FnExactInboxAck hands back true. No conditions but a length below 2 to the 62. -/
import Derived.Test.YtkdaijcdddomjaaI19
namespace Go.Proofs.Ytkdaijcdddomjaa
open Go.Pm
set_option maxRecDepth 10000
set_option linter.unusedSimpArgs false
section
variable {P : Program} [Is P]
theorem c9 (n num : Int) (xs : List Note) (hx : xs.length < 2 ^ 62) : Con P 9 [.agg [.int .i64 n, .sl 3 (xs.map encNote)], .int .i64 num] (.bool true) := by
  refine Con.of (n := 74) (rs := [.tmp 4]) (Is.fn Try.func9) rfl (Is.call Try.call9) Try.results9 Try.ntmps9 trivial ?_
  simp (maxSteps := 4000000) only [method_specs_simp, seval]
  refine clY.con (c15 _ _ _ hx) (by simp only [method_specs_simp]) ?_
  simp (maxSteps := 4000000) only [method_specs_simp, seval]
  refine gB_split (fun h => ?_) (fun h => ?_)
  · trivial
  · have hl : xs.length ≤ 1048576 := (hl_of h).resolve_right (by omega)
    have hk : decide (1 + 3 * (xs.length : Int) < 0) = false := by simp; omega
    refine clY.con (c17 _ _ (by omega)) (by simp only [method_specs_simp]) ?_
    simp (maxSteps := 4000000) only [method_specs_simp, seval]
    by_cases hc : (specOk n xs && isB num 0 n) = true
    · obtain ⟨ok, ol⟩ := Bool.and_eq_true_iff.1 hc
      obtain ⟨b1, b2, b3⟩ := bounds_of ok
      have hkl := kept_le num xs
      have h33 := c37 (P := P) n num xs ok ol
      have h34 := n38 (P := P) n num xs ok ol
      generalize List.replicate (xs.length - (kept num xs).length) note0 = zs at *
      generalize kept num xs = ys at *
      refine clY.con h33 (by simp only [method_specs_simp]) ?_
      simp (maxSteps := 4000000) only [method_specs_simp, seval]
      refine clY.new (n17 _ _ (by omega)) (by simp only [method_specs_simp]) ?_
      simp (maxSteps := 4000000) only [method_specs_simp, seval]
      refine clY.newF h34 (by simp only [method_specs_simp]) (by simp only [method_specs_simp]) ⟨trivial, trivial, trivial, trivial, trivial, trivial⟩ (flat1 ⟨rfl, flat_notes _⟩) ?_
      simp (maxSteps := 4000000) only [method_specs_simp, seval]
      refine clY.conF (c29b n 0 0 ys (by omega)) (by simp only [method_specs_simp]) (by simp only [method_specs_simp]) trivial ?_
      simp (maxSteps := 4000000) only [method_specs_simp, seval]
      refine ⟨by kernel_rfl, ?_⟩
      refine clY.con (c17 _ _ (by omega)) (by simp only [method_specs_simp]) ?_
      simp (maxSteps := 4000000) only [method_specs_simp, seval]
      refine clY.conF (c19 n n xs xs hx) (by simp only [method_specs_simp]) (by simp only [method_specs_simp]) trivial ?_
      simp (maxSteps := 4000000) only [method_specs_simp, seval, eqNoteS_same, bne_self_eq_false]
      refine clY.live [2] [] (n30 n 1 xs (by omega) (by omega) (by omega)) ?_ (Nat.le_refl _) ?_
      · simp only [mvcgen_simp, method_specs_simp, seval]
      simp (maxSteps := 4000000) only [method_specs_simp, seval, hk]
      refine clY.conF (c29b n 0 0 ys (by omega)) (by simp only [method_specs_simp]) (by simp only [method_specs_simp]) trivial ?_
      simp (maxSteps := 4000000) only [method_specs_simp, seval]
      refine clY.live [4] [] (n31g n 1 0 0 ys zs (by omega) (by omega) (by omega)) ?_ (Nat.le_refl _) ?_
      · simp only [mvcgen_simp, method_specs_simp, seval]
      simp (maxSteps := 4000000) only [method_specs_simp, seval]
      have hh := c32b (P := P) n 1 0 0 ys.length (by omega) (by omega) (by omega)
      have hk2 : decide (1 + 3 * (ys.length : Int) < 0) = false := by simp; omega
      refine clY.conF hh (by simp only [method_specs_simp]) (by simp only [method_specs_simp]) trivial ?_
      simp (maxSteps := 4000000) only [method_specs_simp, seval, hk2, bne_self_eq_false]
      refine clY.con (c17 _ _ (by omega)) (by simp only [method_specs_simp]) ?_
      simp (maxSteps := 4000000) only [method_specs_simp, seval]
      refine clY.new h34 (by simp only [method_specs_simp]) ?_
      simp (maxSteps := 4000000) only [method_specs_simp, seval]
      refine clY.conF (c29b n 0 0 ys (by omega)) (by simp only [method_specs_simp]) (by simp only [method_specs_simp]) trivial ?_
      simp (maxSteps := 4000000) only [method_specs_simp, seval]
      refine clY.conF hh (by simp only [method_specs_simp]) (by simp only [method_specs_simp]) trivial ?_
      simp (maxSteps := 4000000) only [method_specs_simp, seval, hk2, bne_self_eq_false]
    · obtain ⟨c, h33, h34⟩ := c37e (P := P) n num xs hx (by simpa using hc)
      unfold errCells at h33 h34
      refine clY.con h33 (by simp only [method_specs_simp]) ?_
      simp (maxSteps := 4000000) only [method_specs_simp, seval]
      refine clY.new (n17 _ _ (by omega)) (by simp only [method_specs_simp]) ?_
      simp (maxSteps := 4000000) only [method_specs_simp, seval]
      refine clY.conF h34 (by simp only [method_specs_simp]) (by simp only [method_specs_simp]) ⟨trivial, trivial, trivial, trivial, trivial, trivial⟩ ?_
      simp (maxSteps := 4000000) only [method_specs_simp, seval]
      refine clY.con (c29m 0 0 c) (by simp only [method_specs_simp]) ?_
      simp (maxSteps := 4000000) only [method_specs_simp, seval]
      refine ⟨by kernel_rfl, ?_⟩
      refine clY.con (c17 _ _ (by omega)) (by simp only [method_specs_simp]) ?_
      simp (maxSteps := 4000000) only [method_specs_simp, seval]
      refine clY.conF (c19 n n xs xs hx) (by simp only [method_specs_simp]) (by simp only [method_specs_simp]) trivial ?_
      simp (maxSteps := 4000000) only [method_specs_simp, seval, eqNoteS_same, bne_self_eq_false]
      refine clY.live [2] [] (n30 n 1 xs (by omega) (by omega) (by omega)) ?_ (Nat.le_refl _) ?_
      · simp only [mvcgen_simp, method_specs_simp, seval]
      simp (maxSteps := 4000000) only [method_specs_simp, seval, hk]
      refine clY.con (c29m 0 0 c) (by simp only [method_specs_simp]) ?_
      simp (maxSteps := 4000000) only [method_specs_simp, seval]
      refine clY.con (c31m 0 1 0 c) (by simp only [method_specs_simp]) ?_
      simp (maxSteps := 4000000) only [method_specs_simp, seval]
      refine clY.con (c32m 0 1 0 c (by omega) (by omega)) (by simp only [method_specs_simp]) ?_
      simp (maxSteps := 4000000) only [method_specs_simp, seval]
      refine clY.con (c17 _ _ (by omega)) (by simp only [method_specs_simp]) ?_
      simp (maxSteps := 4000000) only [method_specs_simp, seval]
      refine clY.con h34 (by simp only [method_specs_simp]) ?_
      simp (maxSteps := 4000000) only [method_specs_simp, seval]
      refine clY.con (c29m 0 0 c) (by simp only [method_specs_simp]) ?_
      simp (maxSteps := 4000000) only [method_specs_simp, seval]
      refine clY.con (c32m 0 1 0 c (by omega) (by omega)) (by simp only [method_specs_simp]) ?_
      simp (maxSteps := 4000000) only [method_specs_simp, seval]
end
end Go.Proofs.Ytkdaijcdddomjaa
