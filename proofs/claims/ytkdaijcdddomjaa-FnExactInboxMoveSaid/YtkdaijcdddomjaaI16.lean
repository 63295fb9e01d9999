/- The law FnExactInboxMove hands back true. No conditions but lengths. -/
import Derived.Test.YtkdaijcdddomjaaI15
namespace Go.Proofs.Ytkdaijcdddomjaa
open Go.Pm
set_option maxRecDepth 10000
set_option linter.unusedSimpArgs false
section
variable {P : Program} [Is P]
theorem c8k (na nb : Int) (us bs : List Note) (ha : us.length * 32 ≤ 2 ^ 47) (hb : bs.length * 32 ≤ 2 ^ 47) (hc : (mvOk na us nb bs && !mvFull na us bs) = true) : Con P 8 [.agg [.int .i64 na, .sl 3 (us.map encNote)], .agg [.int .i64 nb, .sl 3 (bs.map encNote)]] (.bool true) := by
  refine Con.of (n := 92) (rs := [.tmp 4]) (Is.fn Try.func8) rfl (Is.call Try.call8) Try.results8 Try.ntmps8 trivial ?_
  simp (maxSteps := 4000000) only [method_specs_simp, seval]
  refine clY.con (c15 _ _ _ (by omega)) (by simp only [method_specs_simp]) ?_
  simp (maxSteps := 4000000) only [method_specs_simp, seval]
  refine gB_split (fun h => ?_) (fun h => ?_)
  · trivial
  refine clY.con (c15 _ _ _ (by omega)) (by simp only [method_specs_simp]) ?_
  simp (maxSteps := 4000000) only [method_specs_simp, seval]
  refine gB_split (fun h => ?_) (fun h => ?_)
  · trivial
  · have hk : decide (1 + 3 * (us.length : Int) + 3 * (bs.length : Int) < 0) = false := by simp; omega
    refine ⟨by kernel_rfl, ?_⟩
    refine clY.con (c17 _ _ (by omega)) (by simp only [method_specs_simp]) ?_
    simp (maxSteps := 4000000) only [method_specs_simp, seval]
    refine clY.con (c17 _ _ (by omega)) (by simp only [method_specs_simp]) ?_
    simp (maxSteps := 4000000) only [method_specs_simp, seval]
    obtain ⟨ok, nf⟩ := Bool.and_eq_true_iff.1 hc
    simp only [Bool.not_eq_true'] at nf
    obtain ⟨a1, a2, a3, b3, _, _⟩ := mv_bounds ok
    have hlen : (us ++ mv na bs).length = us.length + bs.length := by rw [List.length_append, mv_length]
    have h33 := c35 (P := P) na nb us bs ok nf
    have h34 := n36 (P := P) na nb us bs ok nf
    unfold mvCells at h33
    generalize hys : us ++ mv na bs = ys at *
    rw [← hlen] at h34
    generalize na + (bs.length : Int) = nn at *
    refine clY.con h33 (by simp only [method_specs_simp]) ?_
    simp (maxSteps := 4000000) only [method_specs_simp, seval]
    refine clY.new (n17 _ _ (by omega)) (by simp only [method_specs_simp]) ?_
    simp (maxSteps := 4000000) only [method_specs_simp, seval]
    refine clY.new (n17 _ _ (by omega)) (by simp only [method_specs_simp]) ?_
    simp (maxSteps := 4000000) only [method_specs_simp, seval]
    refine clY.newF h34 (by simp only [method_specs_simp]) (by simp only [method_specs_simp]) ⟨trivial, trivial, trivial, trivial, trivial, trivial⟩ (flat1 ⟨rfl, flat_notes _⟩) ?_
    simp (maxSteps := 4000000) only [method_specs_simp, seval]
    refine clY.conF (c29b nn nn 0 ys (by omega)) (by simp only [method_specs_simp]) (by simp only [method_specs_simp]) trivial ?_
    simp (maxSteps := 4000000) only [method_specs_simp, seval]
    refine ⟨by kernel_rfl, ?_⟩
    refine clY.con (c17 _ _ (by omega)) (by simp only [method_specs_simp]) ?_
    simp (maxSteps := 4000000) only [method_specs_simp, seval]
    refine clY.conF (c19 na na us us (by omega)) (by simp only [method_specs_simp]) (by simp only [method_specs_simp]) trivial ?_
    simp (maxSteps := 4000000) only [method_specs_simp, seval, eqNoteS_same, bne_self_eq_false]
    refine ⟨by kernel_rfl, ?_⟩
    refine clY.con (c17 _ _ (by omega)) (by simp only [method_specs_simp]) ?_
    simp (maxSteps := 4000000) only [method_specs_simp, seval]
    refine clY.conF (c19 nb nb bs bs (by omega)) (by simp only [method_specs_simp]) (by simp only [method_specs_simp]) trivial ?_
    simp (maxSteps := 4000000) only [method_specs_simp, seval, eqNoteS_same, bne_self_eq_false]
    refine clY.live [3] [] (n30 na 1 us (by omega) (by omega) (by omega)) ?_ (Nat.le_refl _) ?_
    · simp only [mvcgen_simp, method_specs_simp, seval]
    simp (maxSteps := 4000000) only [method_specs_simp, seval]
    refine clY.live [5] [] (n30 nb (1 + 3 * us.length) bs (by omega) (by omega) (by omega)) ?_ (Nat.le_refl _) ?_
    · simp only [mvcgen_simp, method_specs_simp, seval]
    simp (maxSteps := 4000000) only [method_specs_simp, seval, hk]
    refine clY.conF (c29b nn nn 0 ys (by omega)) (by simp only [method_specs_simp]) (by simp only [method_specs_simp]) trivial ?_
    simp (maxSteps := 4000000) only [method_specs_simp, seval]
    refine clY.live [7] [] (n31b nn 1 nn 0 ys (by omega) (by omega) (by omega)) ?_ (Nat.le_refl _) ?_
    · simp only [mvcgen_simp, method_specs_simp, seval]
    simp (maxSteps := 4000000) only [method_specs_simp, seval]
    have hh := c32b (P := P) nn 1 nn 0 ys.length (by omega) (by omega) (by omega)
    have hk2 : decide (1 + 3 * (ys.length : Int) < 0) = false := by simp; omega
    refine clY.conF hh (by simp only [method_specs_simp]) (by simp only [method_specs_simp]) trivial ?_
    simp (maxSteps := 4000000) only [method_specs_simp, seval, hk2, bne_self_eq_false]
    refine ⟨by kernel_rfl, ?_⟩
    refine clY.con (c17 _ _ (by omega)) (by simp only [method_specs_simp]) ?_
    simp (maxSteps := 4000000) only [method_specs_simp, seval]
    refine clY.con (c17 _ _ (by omega)) (by simp only [method_specs_simp]) ?_
    simp (maxSteps := 4000000) only [method_specs_simp, seval]
    refine clY.new h34 (by simp only [method_specs_simp]) ?_
    simp (maxSteps := 4000000) only [method_specs_simp, seval]
    refine clY.conF (c29b nn nn 0 ys (by omega)) (by simp only [method_specs_simp]) (by simp only [method_specs_simp]) trivial ?_
    simp (maxSteps := 4000000) only [method_specs_simp, seval]
    refine clY.conF hh (by simp only [method_specs_simp]) (by simp only [method_specs_simp]) trivial ?_
    simp (maxSteps := 4000000) only [method_specs_simp, seval, hk2, bne_self_eq_false]
theorem c8e (na nb : Int) (us bs : List Note) (ha : us.length * 32 ≤ 2 ^ 47) (hb : bs.length * 32 ≤ 2 ^ 47) (hc : ¬ (mvOk na us nb bs && !mvFull na us bs) = true) : Con P 8 [.agg [.int .i64 na, .sl 3 (us.map encNote)], .agg [.int .i64 nb, .sl 3 (bs.map encNote)]] (.bool true) := by
  refine Con.of (n := 92) (rs := [.tmp 4]) (Is.fn Try.func8) rfl (Is.call Try.call8) Try.results8 Try.ntmps8 trivial ?_
  simp (maxSteps := 4000000) only [method_specs_simp, seval]
  refine clY.con (c15 _ _ _ (by omega)) (by simp only [method_specs_simp]) ?_
  simp (maxSteps := 4000000) only [method_specs_simp, seval]
  refine gB_split (fun h => ?_) (fun h => ?_)
  · trivial
  refine clY.con (c15 _ _ _ (by omega)) (by simp only [method_specs_simp]) ?_
  simp (maxSteps := 4000000) only [method_specs_simp, seval]
  refine gB_split (fun h => ?_) (fun h => ?_)
  · trivial
  · have hk : decide (1 + 3 * (us.length : Int) + 3 * (bs.length : Int) < 0) = false := by simp; omega
    refine ⟨by kernel_rfl, ?_⟩
    refine clY.con (c17 _ _ (by omega)) (by simp only [method_specs_simp]) ?_
    simp (maxSteps := 4000000) only [method_specs_simp, seval]
    refine clY.con (c17 _ _ (by omega)) (by simp only [method_specs_simp]) ?_
    simp (maxSteps := 4000000) only [method_specs_simp, seval]
    obtain ⟨c, h33, h34⟩ : ∃ c, Con P 35 [.agg [.int .i64 na, .sl 3 (us.map encNote)], .agg [.int .i64 nb, .sl 3 (bs.map encNote)]] (.agg (errCells c)) ∧ Con P 36 [.agg [.int .i64 na, .sl 3 (us.map encNote)], .agg [.int .i64 nb, .sl 3 (bs.map encNote)]] (.agg (errCells c)) := by
      cases ok : mvOk na us nb bs with
      | false => exact ⟨1, c35x na nb us bs (by omega) (by omega) ok, c36x na nb us bs (by omega) (by omega) ok⟩
      | true =>
        rw [ok, Bool.true_and] at hc
        have hf : mvFull na us bs = true := by simpa using hc
        exact ⟨9, c35f na nb us bs ok hf, c36f na nb us bs ok hf⟩
    unfold errCells at h33 h34
    refine clY.con h33 (by simp only [method_specs_simp]) ?_
    simp (maxSteps := 4000000) only [method_specs_simp, seval]
    refine clY.new (n17 _ _ (by omega)) (by simp only [method_specs_simp]) ?_
    simp (maxSteps := 4000000) only [method_specs_simp, seval]
    refine clY.new (n17 _ _ (by omega)) (by simp only [method_specs_simp]) ?_
    simp (maxSteps := 4000000) only [method_specs_simp, seval]
    refine clY.conF h34 (by simp only [method_specs_simp]) (by simp only [method_specs_simp]) ⟨trivial, trivial, trivial, trivial, trivial, trivial⟩ ?_
    simp (maxSteps := 4000000) only [method_specs_simp, seval]
    refine clY.con (c29m 0 0 c) (by simp only [method_specs_simp]) ?_
    simp (maxSteps := 4000000) only [method_specs_simp, seval]
    refine ⟨by kernel_rfl, ?_⟩
    refine clY.con (c17 _ _ (by omega)) (by simp only [method_specs_simp]) ?_
    simp (maxSteps := 4000000) only [method_specs_simp, seval]
    refine clY.conF (c19 na na us us (by omega)) (by simp only [method_specs_simp]) (by simp only [method_specs_simp]) trivial ?_
    simp (maxSteps := 4000000) only [method_specs_simp, seval, eqNoteS_same, bne_self_eq_false]
    refine ⟨by kernel_rfl, ?_⟩
    refine clY.con (c17 _ _ (by omega)) (by simp only [method_specs_simp]) ?_
    simp (maxSteps := 4000000) only [method_specs_simp, seval]
    refine clY.conF (c19 nb nb bs bs (by omega)) (by simp only [method_specs_simp]) (by simp only [method_specs_simp]) trivial ?_
    simp (maxSteps := 4000000) only [method_specs_simp, seval, eqNoteS_same, bne_self_eq_false]
    refine clY.live [3] [] (n30 na 1 us (by omega) (by omega) (by omega)) ?_ (Nat.le_refl _) ?_
    · simp only [mvcgen_simp, method_specs_simp, seval]
    simp (maxSteps := 4000000) only [method_specs_simp, seval]
    refine clY.live [5] [] (n30 nb (1 + 3 * us.length) bs (by omega) (by omega) (by omega)) ?_ (Nat.le_refl _) ?_
    · simp only [mvcgen_simp, method_specs_simp, seval]
    simp (maxSteps := 4000000) only [method_specs_simp, seval, hk]
    refine clY.con (c29m 0 0 c) (by simp only [method_specs_simp]) ?_
    simp (maxSteps := 4000000) only [method_specs_simp, seval]
    refine clY.con (c31m 0 1 0 c) (by simp only [method_specs_simp]) ?_
    simp (maxSteps := 4000000) only [method_specs_simp, seval]
    refine clY.con (c32m 0 1 0 c (by omega) (by omega)) (by simp only [method_specs_simp]) ?_
    simp (maxSteps := 4000000) only [method_specs_simp, seval]
    refine ⟨by kernel_rfl, ?_⟩
    refine clY.con (c17 _ _ (by omega)) (by simp only [method_specs_simp]) ?_
    simp (maxSteps := 4000000) only [method_specs_simp, seval]
    refine clY.con (c17 _ _ (by omega)) (by simp only [method_specs_simp]) ?_
    simp (maxSteps := 4000000) only [method_specs_simp, seval]
    refine clY.con h34 (by simp only [method_specs_simp]) ?_
    simp (maxSteps := 4000000) only [method_specs_simp, seval]
    refine clY.con (c29m 0 0 c) (by simp only [method_specs_simp]) ?_
    simp (maxSteps := 4000000) only [method_specs_simp, seval]
    refine clY.con (c32m 0 1 0 c (by omega) (by omega)) (by simp only [method_specs_simp]) ?_
    simp (maxSteps := 4000000) only [method_specs_simp, seval]
theorem c8 (na nb : Int) (us bs : List Note) (ha : us.length * 32 ≤ 2 ^ 47) (hb : bs.length * 32 ≤ 2 ^ 47) : Con P 8 [.agg [.int .i64 na, .sl 3 (us.map encNote)], .agg [.int .i64 nb, .sl 3 (bs.map encNote)]] (.bool true) := by
  by_cases hc : (mvOk na us nb bs && !mvFull na us bs) = true
  · exact c8k na nb us bs ha hb hc
  · exact c8e na nb us bs ha hb hc
end
end Go.Proofs.Ytkdaijcdddomjaa
