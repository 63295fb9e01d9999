/- The law FnExactInboxPut hands back true. No conditions but lengths below 2 to the 62. -/
import Derived.Test.YtkdaijcdddomjaaI12
namespace Go.Proofs.Ytkdaijcdddomjaa
open Go.Pm
set_option maxRecDepth 10000
set_option linter.unusedSimpArgs false
section
variable {P : Program} [Is P]
theorem n31b (a k d c : Int) (xs : List Note) (h0 : 0 ≤ k) (h1 : k < 2 ^ 30) (hx : xs.length < 2 ^ 30) :
    LCon P 31 [.agg [.int .i64 a, .ar 0 0 xs.length, .nil, .int .i64 d, .int .i64 c], .int .i64 k] [.arr true 3 (xs.map encNote)] (.int .i64 (k + 3 * xs.length)) [.arr true 3 ((mNotes k xs.length).map encNote)] := by
  refine LCon.of (n := 14) (rs := [.tmp 4]) (Is.fn Try.func31) rfl (Is.call Try.call31) Try.results31 Try.ntmps31 ?_
  simp (maxSteps := 4000000) only [method_specs_simp, seval]
  refine clY.live [0] [] (n30 a k xs h0 (by omega) (by omega)) ?_ (Nat.le_refl _) ?_
  · simp only [mvcgen_simp, method_specs_simp, seval]
  · simp (maxSteps := 4000000) only [method_specs_simp, seval]
    refine clY.con (c97m _) (by simp only [method_specs_simp]) ?_
    simp (maxSteps := 4000000) only [method_specs_simp, seval]
    refine LResY.mk [0] ?_
    simp only [mvcgen_simp, method_specs_simp, seval, mNotes_length]
theorem c32b (a k d c : Int) (n1 : Nat) (h0 : 0 ≤ k) (h1 : k < 2 ^ 30) (hx1 : n1 < 2 ^ 30) :
    Con P 32 [.agg [.int .i64 a, .sl 3 ((mNotes k n1).map encNote), .nil, .int .i64 d, .int .i64 c], .int .i64 k] (.int .i64 (k + 3 * n1)) := by
  have := c32 (P := P) a k d c n1 0 h0 h1 hx1 (by omega)
  rw [show k + 3 * (n1 : Int) + 3 * ((0 : Nat) : Int) = k + 3 * n1 by omega] at this
  exact this.weak (VLes.cons (VLe.agg (VLes.same (VLes.same (VLes.cons (VLe.nil 3) (VLes.same (VLes.same VLes.nil)))))) (VLes.same VLes.nil))
theorem c29b (a d c : Int) (xs : List Note) (hx : xs.length < 2 ^ 62) : Con P 29 [.agg [.int .i64 a, .sl 3 (xs.map encNote), .nil, .int .i64 d, .int .i64 c], .agg [.int .i64 a, .sl 3 (xs.map encNote), .nil, .int .i64 d, .int .i64 c]] (.bool true) := by
  have := c29 (P := P) a d c xs [] hx (by decide)
  have h : VLe (.agg [.int .i64 a, .sl 3 (xs.map encNote), .nil, .int .i64 d, .int .i64 c]) (.agg [.int .i64 a, .sl 3 (xs.map encNote), .sl 3 [], .int .i64 d, .int .i64 c]) := VLe.agg (VLes.same (VLes.same (VLes.cons (VLe.nil 3) (VLes.same (VLes.same VLes.nil)))))
  exact this.weak (VLes.cons h (VLes.cons h VLes.nil))
theorem c7 (n frm : Int) (text : ByteArray) (xs : List Note) (hx : xs.length < 2 ^ 62) : Con P 7 [.agg [.int .i64 n, .sl 3 (xs.map encNote)], .int .i64 frm, .str text] (.bool true) := by
  refine Con.of (n := 82) (rs := [.tmp 6]) (Is.fn Try.func7) rfl (Is.call Try.call7) Try.results7 Try.ntmps7 trivial ?_
  simp (maxSteps := 4000000) only [method_specs_simp, seval]
  refine gB_split (fun h => ?_) (fun h => ?_)
  · trivial
  refine clY.con (c15 _ _ _ hx) (by simp only [method_specs_simp]) ?_
  simp (maxSteps := 4000000) only [method_specs_simp, seval]
  refine gB_split (fun h => ?_) (fun h => ?_)
  · trivial
  · have hl : xs.length ≤ 1048576 := (hl_of h).resolve_right (by omega)
    have hk : decide (1 + 3 * (xs.length : Int) < 0) = false := by simp; omega
    refine clY.con (c17 _ _ (by omega)) (by simp only [method_specs_simp]) ?_
    simp (maxSteps := 4000000) only [method_specs_simp, seval]
    by_cases hc : putCode n frm text xs = 0
    · have hlen : (xs ++ [(⟨n + 1, frm, text⟩ : Note)]).length = xs.length + 1 := by simp
      have h33 := c33 (P := P) n frm text xs hc
      have h34 := n34 (P := P) n frm text xs hc
      unfold putCells at h33
      generalize hys : xs ++ [(⟨n + 1, frm, text⟩ : Note)] = ys at *
      rw [← hlen] at h34
      refine clY.con h33 (by simp only [method_specs_simp]) ?_
      simp (maxSteps := 4000000) only [method_specs_simp, seval]
      refine clY.new (n17 _ _ (by omega)) (by simp only [method_specs_simp]) ?_
      simp (maxSteps := 4000000) only [method_specs_simp, seval]
      refine clY.newF h34 (by simp only [method_specs_simp]) (by simp only [method_specs_simp]) ⟨trivial, trivial, trivial, trivial, trivial, trivial⟩ (flat1 ⟨rfl, flat_notes _⟩) ?_
      simp (maxSteps := 4000000) only [method_specs_simp, seval]
      refine clY.conF (c29b (n + 1) (n + 1) 0 ys (by omega)) (by simp only [method_specs_simp]) (by simp only [method_specs_simp]) trivial ?_
      simp (maxSteps := 4000000) only [method_specs_simp, seval]
      refine ⟨by kernel_rfl, ?_⟩
      refine clY.con (c17 _ _ (by omega)) (by simp only [method_specs_simp]) ?_
      simp (maxSteps := 4000000) only [method_specs_simp, seval]
      refine clY.conF (c19 n n xs xs hx) (by simp only [method_specs_simp]) (by simp only [method_specs_simp]) trivial ?_
      simp (maxSteps := 4000000) only [method_specs_simp, seval, eqNoteS_same, bne_self_eq_false]
      refine clY.live [2] [] (n30 n 1 xs (by omega) (by omega) (by omega)) ?_ (Nat.le_refl _) ?_
      · simp only [mvcgen_simp, method_specs_simp, seval]
      simp (maxSteps := 4000000) only [method_specs_simp, seval, hk]
      refine clY.conF (c29b (n + 1) (n + 1) 0 ys (by omega)) (by simp only [method_specs_simp]) (by simp only [method_specs_simp]) trivial ?_
      simp (maxSteps := 4000000) only [method_specs_simp, seval]
      refine clY.live [4] [] (n31b (n + 1) 1 (n + 1) 0 ys (by omega) (by omega) (by omega)) ?_ (Nat.le_refl _) ?_
      · simp only [mvcgen_simp, method_specs_simp, seval]
      simp (maxSteps := 4000000) only [method_specs_simp, seval]
      have hh := c32b (P := P) (n + 1) 1 (n + 1) 0 ys.length (by omega) (by omega) (by omega)
      have hk2 : decide (1 + 3 * (ys.length : Int) < 0) = false := by simp; omega
      refine clY.conF hh (by simp only [method_specs_simp]) (by simp only [method_specs_simp]) trivial ?_
      simp (maxSteps := 4000000) only [method_specs_simp, seval, hk2, bne_self_eq_false]
      refine clY.con (c17 _ _ (by omega)) (by simp only [method_specs_simp]) ?_
      simp (maxSteps := 4000000) only [method_specs_simp, seval]
      refine clY.new h34 (by simp only [method_specs_simp]) ?_
      simp (maxSteps := 4000000) only [method_specs_simp, seval]
      refine clY.conF (c29b (n + 1) (n + 1) 0 ys (by omega)) (by simp only [method_specs_simp]) (by simp only [method_specs_simp]) trivial ?_
      simp (maxSteps := 4000000) only [method_specs_simp, seval]
      refine clY.conF hh (by simp only [method_specs_simp]) (by simp only [method_specs_simp]) trivial ?_
      simp (maxSteps := 4000000) only [method_specs_simp, seval, hk2, bne_self_eq_false]
    · have h33 := c33e (P := P) n frm text xs hx hc
      have h34 := c34e (P := P) n frm text xs hx hc
      generalize putCode n frm text xs = c at *
      unfold errCells at h33 h34
      refine clY.con h33 (by simp only [method_specs_simp]) ?_
      simp (maxSteps := 4000000) only [method_specs_simp, seval]
      refine clY.new (n17 _ _ (by omega)) (by simp only [method_specs_simp]) ?_
      simp (maxSteps := 4000000) only [method_specs_simp, seval]
      refine clY.conF h34 (by simp only [method_specs_simp]) (by simp only [method_specs_simp]) ⟨trivial, trivial, trivial, trivial, trivial, trivial⟩ ?_
      simp (maxSteps := 4000000) only [method_specs_simp, seval]
      refine clY.con (c29m 0 0 c) (by simp only [method_specs_simp]) ?_
      simp (maxSteps := 4000000) only [method_specs_simp, seval]
      refine ⟨by kernel_rfl, ?_⟩
      refine clY.con (c17 _ _ (by omega)) (by simp only [method_specs_simp]) ?_
      simp (maxSteps := 4000000) only [method_specs_simp, seval]
      refine clY.conF (c19 n n xs xs hx) (by simp only [method_specs_simp]) (by simp only [method_specs_simp]) trivial ?_
      simp (maxSteps := 4000000) only [method_specs_simp, seval, eqNoteS_same, bne_self_eq_false]
      refine clY.live [2] [] (n30 n 1 xs (by omega) (by omega) (by omega)) ?_ (Nat.le_refl _) ?_
      · simp only [mvcgen_simp, method_specs_simp, seval]
      simp (maxSteps := 4000000) only [method_specs_simp, seval, hk]
      refine clY.con (c29m 0 0 c) (by simp only [method_specs_simp]) ?_
      simp (maxSteps := 4000000) only [method_specs_simp, seval]
      refine clY.con (c31m 0 1 0 c) (by simp only [method_specs_simp]) ?_
      simp (maxSteps := 4000000) only [method_specs_simp, seval]
      refine clY.con (c32m 0 1 0 c (by omega) (by omega)) (by simp only [method_specs_simp]) ?_
      simp (maxSteps := 4000000) only [method_specs_simp, seval]
      refine clY.con (c17 _ _ (by omega)) (by simp only [method_specs_simp]) ?_
      simp (maxSteps := 4000000) only [method_specs_simp, seval]
      refine clY.con h34 (by simp only [method_specs_simp]) ?_
      simp (maxSteps := 4000000) only [method_specs_simp, seval]
      refine clY.con (c29m 0 0 c) (by simp only [method_specs_simp]) ?_
      simp (maxSteps := 4000000) only [method_specs_simp, seval]
      refine clY.con (c32m 0 1 0 c (by omega) (by omega)) (by simp only [method_specs_simp]) ?_
      simp (maxSteps := 4000000) only [method_specs_simp, seval]
end
end Go.Proofs.Ytkdaijcdddomjaa
