/- The law FnExactInboxRead hands back true. No conditions but a length below 2 to the 62. -/
import Derived.Test.YtkdaijcdddomjaaI9
namespace Go.Proofs.Ytkdaijcdddomjaa
open Go.Pm
set_option maxRecDepth 10000
set_option linter.unusedSimpArgs false
theorem take_all {α β : Type} {f : α → β} {l : List α} : List.take l.length (l.map f) = l.map f := List.take_of_length_le (by simp)
theorem take_same {α β : Type} {f : α → β} {l : List α} {k : Nat} : List.take k (List.map f (List.take k l)) = List.map f (List.take k l) := by
  rw [← List.map_take, List.take_take, Nat.min_self]
attribute [method_specs_simp] take_all take_same mNotes_length
theorem take_marks {k : Int} {n : Nat} : List.take n ((mNotes k n).map encNote) = (mNotes k n).map encNote := List.take_of_length_le (by simp [mNotes_length])
attribute [method_specs_simp] take_marks decide_false decide_true
section
variable {P : Program} [Is P]
theorem c97n (k : Int) : Con P 97 [.sl 3 [], .int .i64 k] (.int .i64 k) := by
  refine Con.of (n := 35) (rs := [.tmp 4]) (Is.fn Try.func97) rfl (Is.call Try.call97) Try.results97 Try.ntmps97 trivial ?_
  simp (maxSteps := 4000000) only [method_specs_simp, seval]
  refine SW.while (A := Unit) (fun _ => ⟨pad 35 [.sl 3 [], .int .i64 k, .junk, .junk, .junk, .int .i64 0], [], []⟩) (fun _ => 0) (fun _ => True) () [] trivial ?_ ?_
  · simp only [mvcgen_simp, method_specs_simp, seval]
  · intro _ _
    refine CW.sound ?_
    simp (maxSteps := 4000000) only [method_specs_simp, seval]
theorem c97m (k : Int) : Con P 97 [.nil, .int .i64 k] (.int .i64 k) := (c97n k).weak (VLes.cons (VLe.nil 3) (VLes.same VLes.nil))
theorem c99m (k : Int) (h0 : 0 ≤ k) (h1 : k < 2 ^ 40) : Con P 99 [.nil, .int .i64 k] (.int .i64 k) := by
  have := c99 (P := P) k 0 h0 h1 (by omega)
  rw [show k + 3 * ((0 : Nat) : Int) = k by omega] at this
  exact this.weak (VLes.cons (VLe.nil 3) (VLes.same VLes.nil))
/-- Marks of an answer that has no slices. -/
theorem c31m (a k d c : Int) : Con P 31 [.agg [.int .i64 a, .nil, .nil, .int .i64 d, .int .i64 c], .int .i64 k] (.int .i64 k) := by
  have c30m : ∀ (a k : Int), Con P 30 [.agg [.int .i64 a, .nil], .int .i64 k] (.int .i64 k) := by
    intro a k
    refine Con.of (n := 10) (rs := [.tmp 4]) (Is.fn Try.func30) rfl (Is.call Try.call30) Try.results30 Try.ntmps30 trivial ?_
    simp (maxSteps := 4000000) only [method_specs_simp, seval]
    refine clY.con (c97m k) (by simp only [method_specs_simp]) ?_
    simp (maxSteps := 4000000) only [method_specs_simp, seval]
  refine Con.of (n := 14) (rs := [.tmp 4]) (Is.fn Try.func31) rfl (Is.call Try.call31) Try.results31 Try.ntmps31 trivial ?_
  simp (maxSteps := 4000000) only [method_specs_simp, seval]
  refine clY.con (c30m a k) (by simp only [method_specs_simp]) ?_
  simp (maxSteps := 4000000) only [method_specs_simp, seval]
  refine clY.con (c97m k) (by simp only [method_specs_simp]) ?_
  simp (maxSteps := 4000000) only [method_specs_simp, seval]
/-- What an answer that has no slices holds. -/
theorem c32m (a k d c : Int) (h0 : 0 ≤ k) (h1 : k < 2 ^ 30) : Con P 32 [.agg [.int .i64 a, .nil, .nil, .int .i64 d, .int .i64 c], .int .i64 k] (.int .i64 k) := by
  have := c32 (P := P) a k d c 0 0 h0 h1 (by omega) (by omega)
  rw [show k + 3 * ((0 : Nat) : Int) + 3 * ((0 : Nat) : Int) = k by omega, show k + 3 * ((0 : Nat) : Int) = k by omega] at this
  exact this.weak (VLes.cons (VLe.agg (VLes.same (VLes.cons (VLe.nil 3) (VLes.cons (VLe.nil 3) (VLes.same (VLes.same VLes.nil)))))) (VLes.same VLes.nil))
theorem c29m (a d c : Int) : Con P 29 [.agg [.int .i64 a, .nil, .nil, .int .i64 d, .int .i64 c], .agg [.int .i64 a, .nil, .nil, .int .i64 d, .int .i64 c]] (.bool true) := by
  have := c29 (P := P) a d c [] [] (by decide) (by decide)
  have h : VLe (.agg [.int .i64 a, .nil, .nil, .int .i64 d, .int .i64 c]) (.agg [.int .i64 a, .sl 3 [], .sl 3 [], .int .i64 d, .int .i64 c]) := VLe.agg (VLes.same (VLes.cons (VLe.nil 3) (VLes.cons (VLe.nil 3) (VLes.same (VLes.same VLes.nil)))))
  exact this.weak (VLes.cons h (VLes.cons h VLes.nil))
theorem hl_of {xs : List Note} (h : (decide ((if szNoteS xs 1048576 < 0 then -1 else szNoteS xs 1048576) < 0)) = !true) : xs.length ≤ 1048576 ∨ 2 ^ 62 ≤ xs.length := by
  by_cases hx : xs.length < 2 ^ 62
  · left
    simp only [Bool.not_true, decide_eq_false_iff_not] at h
    by_cases h' : IntKind.i64.wrap (1048576 - (xs.length : Int)) < 0
    · exact absurd (by simp [szNoteS, h']) h
    · rw [wrap_id (by omega) (by omega)] at h'
      omega
  · right; omega
theorem c6 (n lim : Int) (xs : List Note) (hx : xs.length < 2 ^ 62) : Con P 6 [.agg [.int .i64 n, .sl 3 (xs.map encNote)], .int .i64 lim] (.bool true) := by
  refine Con.of (n := 74) (rs := [.tmp 4]) (Is.fn Try.func6) rfl (Is.call Try.call6) Try.results6 Try.ntmps6 trivial ?_
  simp (maxSteps := 4000000) only [method_specs_simp, seval]
  refine clY.con (c15 _ _ _ hx) (by simp only [method_specs_simp]) ?_
  simp (maxSteps := 4000000) only [method_specs_simp, seval]
  refine gB_split (fun h => ?_) (fun h => ?_)
  · trivial
  · have hl : xs.length ≤ 1048576 := (hl_of h).resolve_right (by omega)
    refine clY.con (c17 _ _ (by omega)) (by simp only [method_specs_simp]) ?_
    simp (maxSteps := 4000000) only [method_specs_simp, seval]
    cases hc : (specOk n xs && isB lim 1 30) with
    | false =>
      refine clY.con (c27e n lim xs (by omega) hc) (by simp only [method_specs_simp]) ?_
      simp (maxSteps := 4000000) only [method_specs_simp, seval]
      refine clY.new (n17 _ _ (by omega)) (by simp only [method_specs_simp]) ?_
      simp (maxSteps := 4000000) only [method_specs_simp, seval]
      refine clY.conF (c28e n lim xs (by omega) hc) (by simp only [method_specs_simp]) (by simp only [method_specs_simp]) ⟨trivial, trivial, trivial, trivial, trivial, trivial⟩ ?_
      simp (maxSteps := 4000000) only [method_specs_simp, seval]
      refine clY.con (c29m 0 0 1) (by simp only [method_specs_simp]) ?_
      simp (maxSteps := 4000000) only [method_specs_simp, seval]
      refine ⟨by kernel_rfl, ?_⟩
      refine clY.con (c17 _ _ (by omega)) (by simp only [method_specs_simp]) ?_
      simp (maxSteps := 4000000) only [method_specs_simp, seval]
      refine clY.conF (c19 n n xs xs hx) (by simp only [method_specs_simp]) (by simp only [method_specs_simp]) trivial ?_
      simp (maxSteps := 4000000) only [method_specs_simp, seval, eqNoteS_same, bne_self_eq_false]
      refine clY.live [2] [] (n30 n 1 xs (by omega) (by omega) (by omega)) ?_ (Nat.le_refl _) ?_
      · simp only [mvcgen_simp, method_specs_simp, seval]
      have hk : decide (1 + 3 * (xs.length : Int) < 0) = false := by simp; omega
      simp (maxSteps := 4000000) only [method_specs_simp, seval, hk]
      refine clY.con (c29m 0 0 1) (by simp only [method_specs_simp]) ?_
      simp (maxSteps := 4000000) only [method_specs_simp, seval]
      refine clY.con (c31m 0 1 0 1) (by simp only [method_specs_simp]) ?_
      simp (maxSteps := 4000000) only [method_specs_simp, seval]
      refine clY.con (c32m 0 1 0 1 (by omega) (by omega)) (by simp only [method_specs_simp]) ?_
      simp (maxSteps := 4000000) only [method_specs_simp, seval]
      refine clY.con (c17 _ _ (by omega)) (by simp only [method_specs_simp]) ?_
      simp (maxSteps := 4000000) only [method_specs_simp, seval]
      refine clY.con (c28e n lim xs (by omega) hc) (by simp only [method_specs_simp]) ?_
      simp (maxSteps := 4000000) only [method_specs_simp, seval]
      refine clY.con (c29m 0 0 1) (by simp only [method_specs_simp]) ?_
      simp (maxSteps := 4000000) only [method_specs_simp, seval]
      refine clY.con (c32m 0 1 0 1 (by omega) (by omega)) (by simp only [method_specs_simp]) ?_
      simp (maxSteps := 4000000) only [method_specs_simp, seval]
    | true =>
      have hok := (Bool.and_eq_true_iff.1 hc).1
      have hol := (Bool.and_eq_true_iff.1 hc).2
      refine clY.con (c27 n lim xs (by omega) hok hol) (by simp only [method_specs_simp]) ?_
      simp (maxSteps := 4000000) only [method_specs_simp, seval]
      refine clY.new (n17 _ _ (by omega)) (by simp only [method_specs_simp]) ?_
      simp (maxSteps := 4000000) only [method_specs_simp, seval]
      have hrl : rdLen xs lim ≤ xs.length := by unfold rdLen; omega
      have htl : (xs.take (rdLen xs lim)).length = rdLen xs lim := by rw [List.length_take]; omega
      have htl2 : (xs.take (rdLen xs lim)).length < 2 ^ 62 := by omega
      have flat2 : ∀ ob ∈ [Ob.arr true 3 (xs.map encNote), Ob.arr true 3 ((xs.take (rdLen xs lim)).map encNote)], ob.flat := fun o ho => by
        simp only [List.mem_cons, List.not_mem_nil, or_false] at ho
        rcases ho with rfl | rfl <;> exact ⟨rfl, flat_notes _⟩
      generalize hr : rdLen xs lim = r at *
      refine clY.newF (n28 n lim xs (by omega) hok hol) (by simp only [method_specs_simp]) (by simp only [method_specs_simp]) ⟨trivial, trivial, trivial, trivial, trivial, trivial⟩ (by rw [hr]; exact flat2) ?_
      rw [hr]
      simp (maxSteps := 4000000) only [method_specs_simp, seval]
      refine clY.conF (c29 n (lastNum xs r) 0 xs (xs.take r) hx htl2) (by simp only [method_specs_simp]) (by simp only [method_specs_simp]) trivial ?_
      simp (maxSteps := 4000000) only [method_specs_simp, seval]
      refine ⟨by kernel_rfl, ?_⟩
      refine clY.con (c17 _ _ (by omega)) (by simp only [method_specs_simp]) ?_
      simp (maxSteps := 4000000) only [method_specs_simp, seval]
      refine clY.conF (c19 n n xs xs hx) (by simp only [method_specs_simp]) (by simp only [method_specs_simp]) trivial ?_
      simp (maxSteps := 4000000) only [method_specs_simp, seval, eqNoteS_same, bne_self_eq_false]
      refine clY.live [2] [] (n30 n 1 xs (by omega) (by omega) (by omega)) ?_ (Nat.le_refl _) ?_
      · simp only [mvcgen_simp, method_specs_simp, seval]
      simp (maxSteps := 4000000) only [method_specs_simp, seval]
      have hk : decide (1 + 3 * (xs.length : Int) < 0) = false := by simp; omega
      have hk2 : decide (1 + 3 * (xs.length : Int) + 3 * (r : Int) < 0) = false := by simp; omega
      simp only [hk, method_specs_simp]
      refine clY.conF (c29 n (lastNum xs r) 0 xs (xs.take r) hx htl2) (by simp only [method_specs_simp]) (by simp only [method_specs_simp]) trivial ?_
      simp (maxSteps := 4000000) only [method_specs_simp, seval]
      have hm := n31 (P := P) n 1 (lastNum xs r) 0 xs (xs.take r) (by omega) (by omega) (by omega) (by omega)
      rw [htl] at hm
      refine clY.live [4, 5] [] hm ?_ (Nat.le_refl _) ?_
      · simp only [mvcgen_simp, method_specs_simp, seval]
      simp (maxSteps := 4000000) only [method_specs_simp, seval]
      have hh := c32 (P := P) n 1 (lastNum xs r) 0 xs.length r (by omega) (by omega) (by omega) (by omega)
      refine clY.conF hh (by simp only [method_specs_simp]) (by simp only [method_specs_simp]) trivial ?_
      simp (maxSteps := 4000000) only [method_specs_simp, seval, hk2, bne_self_eq_false]
      refine clY.con (c17 _ _ (by omega)) (by simp only [method_specs_simp]) ?_
      simp (maxSteps := 4000000) only [method_specs_simp, seval]
      have h28 := n28 (P := P) n lim xs (by omega) hok hol
      rw [hr] at h28
      refine clY.new h28 (by simp only [method_specs_simp]) ?_
      simp (maxSteps := 4000000) only [method_specs_simp, seval]
      refine clY.conF (c29 n (lastNum xs r) 0 xs (xs.take r) hx htl2) (by simp only [method_specs_simp]) (by simp only [method_specs_simp]) trivial ?_
      simp (maxSteps := 4000000) only [method_specs_simp, seval]
      refine clY.conF hh (by simp only [method_specs_simp]) (by simp only [method_specs_simp]) trivial ?_
      simp (maxSteps := 4000000) only [method_specs_simp, seval, hk2, bne_self_eq_false]
end
end Go.Proofs.Ytkdaijcdddomjaa
