/- InboxRead of the program, and the law FnExactInboxRead. No conditions but lengths. -/
import Derived.Test.YtkdaijcdddomjaaI8
namespace Go.Proofs.Ytkdaijcdddomjaa
open Go.Pm
set_option maxRecDepth 10000
set_option linter.unusedSimpArgs false
section
variable {P : Program} [Is P]
theorem c27e (n lim : Int) (xs : List Note) (hx : xs.length * 32 ≤ 2 ^ 40) (bad : (specOk n xs && isB lim 1 30) = false) : Con P 27 [.agg [.int .i64 n, .sl 3 (xs.map encNote)], .int .i64 lim] (.agg [.int .i64 0, .nil, .nil, .int .i64 0, .int .i64 1]) := by
  refine Con.of (n := 49) (rs := [.cell 4 42]) (Is.fn Try.func27) rfl (Is.call Try.call27) Try.results27 Try.ntmps27 (by simp only [method_specs_simp]) ?_
  simp (maxSteps := 4000000) only [method_specs_simp, seval]
  refine clY.con (c16 _ _ (by omega)) (by simp only [method_specs_simp]) ?_
  simp (maxSteps := 4000000) only [method_specs_simp, seval]
  cases ok : specOk n xs with
  | false =>
    simp (maxSteps := 4000000) only [method_specs_simp, seval]
    refine clY.con (c93 1) (by simp only [method_specs_simp]) ?_
    simp (maxSteps := 4000000) only [method_specs_simp, seval]
  | true =>
    rw [ok, Bool.true_and] at bad
    simp (maxSteps := 4000000) only [method_specs_simp, seval]
    refine clY.con (c75 _ _ _) (by simp only [method_specs_simp]) ?_
    rw [bad]
    simp (maxSteps := 4000000) only [method_specs_simp, seval]
    refine clY.con (c93 1) (by simp only [method_specs_simp]) ?_
    simp (maxSteps := 4000000) only [method_specs_simp, seval]
theorem c28e (n lim : Int) (xs : List Note) (hx : xs.length * 32 ≤ 2 ^ 40) (bad : (specOk n xs && isB lim 1 30) = false) : Con P 28 [.agg [.int .i64 n, .sl 3 (xs.map encNote)], .int .i64 lim] (.agg [.int .i64 0, .nil, .nil, .int .i64 0, .int .i64 1]) := by
  refine Con.of (n := 42) (rs := [.cell 4 42]) (Is.fn Try.func28) rfl (Is.call Try.call28) Try.results28 Try.ntmps28 (by simp only [method_specs_simp]) ?_
  simp (maxSteps := 4000000) only [method_specs_simp, seval]
  refine clY.con (c18 _ _ (by omega)) (by simp only [method_specs_simp]) ?_
  rw [← spec_impl]
  simp (maxSteps := 4000000) only [method_specs_simp, seval]
  cases ok : specOk n xs with
  | false => simp (maxSteps := 4000000) only [method_specs_simp, seval]
  | true =>
    rw [ok, Bool.true_and] at bad
    simp (maxSteps := 4000000) only [method_specs_simp, seval]
    refine clY.con (c78 _ _ _) (by simp only [method_specs_simp]) ?_
    rw [bad]
    simp (maxSteps := 4000000) only [method_specs_simp, seval]
theorem n28 (n lim : Int) (xs : List Note) (hx : xs.length * 32 ≤ 2 ^ 40) (ok : specOk n xs = true) (ol : isB lim 1 30 = true) : NCon P 28 [.agg [.int .i64 n, .sl 3 (xs.map encNote)], .int .i64 lim]
    (.agg [.int .i64 n, .ar 0 0 xs.length, .ar 1 0 (rdLen xs lim), .int .i64 (lastNum xs (rdLen xs lim)), .int .i64 0]) [.arr true 3 (xs.map encNote), .arr true 3 ((xs.take (rdLen xs lim)).map encNote)] := by
  have hl : 1 ≤ lim ∧ lim ≤ 30 := by simpa [isB] using ol
  refine LCon.new (LCon.of (n := 42) (rs := [.cell 4 42]) (Is.fn Try.func28) rfl (Is.call Try.call28) Try.results28 Try.ntmps28 ?_) (fun o ho => by
    simp only [List.mem_cons, List.not_mem_nil, or_false] at ho
    rcases ho with rfl | rfl <;> exact pure_notes _ _)
  simp (maxSteps := 4000000) only [method_specs_simp, seval]
  refine clY.con (c18 _ _ (by omega)) (by simp only [method_specs_simp]) ?_
  rw [← spec_impl, ok]
  simp (maxSteps := 4000000) only [method_specs_simp, seval]
  refine clY.con (c78 _ _ _) (by simp only [method_specs_simp]) ?_
  rw [ol]
  simp (maxSteps := 4000000) only [method_specs_simp, seval]
  refine ⟨by kernel_rfl, ?_⟩
  refine clY.new (n95 n xs (by omega)) (by simp only [method_specs_simp]) ?_
  have hmin : (if lim < (xs.length : Int) then lim else (xs.length : Int)) = (rdLen xs lim : Nat) := by
    unfold rdLen
    split <;> omega
  have hrl : rdLen xs lim ≤ xs.length := by unfold rdLen; omega
  have htl : (xs.take (rdLen xs lim)).length = rdLen xs lim := by rw [List.length_take]; omega
  simp (maxSteps := 4000000) only [method_specs_simp, seval, mm]
  rw [hmin, Int.toNat_natCast, ← List.map_take]
  refine ⟨by omega, by omega, ?_⟩
  refine clY.new (n96 _ (by omega)) (by simp only [method_specs_simp]) ?_
  simp (maxSteps := 4000000) only [method_specs_simp, seval, htl]
  generalize hr : rdLen xs lim = r at *
  refine gB_split (fun h => ?_) (fun h => ?_)
  · simp only [decide_eq_true_eq] at h
    have e1 : IntKind.i64.wrap ((r : Int) - 1) = ((r - 1 : Nat) : Int) := by rw [wrap_id (by omega) (by omega)]; omega
    have hxk : xs[r - 1]? = some (xs[r - 1]'(by omega)) := List.getElem?_eq_getElem (by omega)
    generalize (xs[r - 1]'(by omega)) = x at hxk
    have hxt : (xs.take r)[r - 1]? = some x := by rw [List.getElem?_take, if_pos (by omega)]; exact hxk
    have hln : lastNum xs r = x.num := by
      have := lastNum_s hxk
      rwa [show r - 1 + 1 = r by omega] at this
    rw [e1, Int.toNat_natCast, hxt]
    simp (maxSteps := 4000000) only [encNote, method_specs_simp, seval]
    refine ⟨by omega, by omega, ?_⟩
    rw [hln]
    refine LResY.mk [2, 3] ?_
    simp only [mvcgen_simp, method_specs_simp, seval]
  · simp only [decide_eq_false_iff_not, Bool.not_true] at h
    have hr0 : r = 0 := by omega
    subst hr0
    rw [lastNum_0]
    refine LResY.mk [2, 3] ?_
    simp only [mvcgen_simp, method_specs_simp, seval]
end
end Go.Proofs.Ytkdaijcdddomjaa
