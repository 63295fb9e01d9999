/- Inboxes: what is held against the marks, and marks of whole values. No conditions but bounds of numbers and lengths. -/
import Derived.Test.YtkdaijcdddomjaaI6
import Derived.Test.YtkdaijcdddomjaaPm25
namespace Go.Proofs.Ytkdaijcdddomjaa
open Go.Pm
set_option maxRecDepth 10000
set_option linter.unusedSimpArgs false
section
variable {P : Program} [Is P]
theorem c99 (k : Int) (n : Nat) (h0 : 0 ≤ k) (h1 : k < 2 ^ 40) (hx : n < 2 ^ 40) : Con P 99 [.sl 3 ((mNotes k n).map encNote), .int .i64 k] (.int .i64 (k + 3 * n)) := by
  refine Con.of (n := 41) (rs := [.tmp 4]) (Is.fn Try.func99) rfl (Is.call Try.call99) Try.results99 Try.ntmps99 trivial ?_
  simp (maxSteps := 4000000) only [method_specs_simp, seval, mNotes_length]
  refine SW.while (A := Nat) (fun i => ⟨pad 41 [.sl 3 ((mNotes k n).map encNote), .int .i64 (k + 3 * i), .junk, .junk, .junk, .int .i64 i], [], []⟩) (fun i => n - i) (fun i => i ≤ n) 0 [] (Nat.zero_le _) ?_ ?_
  · rw [show k + 3 * ((0 : Nat) : Int) = k by omega]
    simp only [mvcgen_simp, method_specs_simp, seval]
  · intro i hi
    refine CW.sound ?_
    simp (maxSteps := 4000000) only [method_specs_simp, seval, mNotes_length]
    refine gB_split (fun h => ?_) (fun h => ?_)
    · simp only [decide_eq_true_eq, Int.ofNat_lt] at h
      have hg := mNotes_get n k i h
      have e1 : IntKind.i64.wrap (k + 3 * i + 1) = k + 3 * i + 1 := wrap_id (by omega) (by omega)
      have e2 : IntKind.i64.wrap (k + 3 * i + 1 + 1) = k + 3 * i + 2 := by rw [wrap_id (by omega) (by omega)]; omega
      have e3 : IntKind.i64.wrap (k + 3 * i + 2 + 1) = k + 3 * ((i + 1 : Nat) : Int) := by rw [wrap_id (by omega) (by omega)]; omega
      have e4 : IntKind.i64.wrap ((i : Int) + 1) = ((i + 1 : Nat) : Int) := by rw [wrap_id (by omega) (by omega)]; rfl
      have e5 : ∀ a : Int, (a != a) = false := fun a => by simp
      have e6 : ∀ a : ByteArray, (a.toList == a.toList) = true := fun a => by simp
      simp (maxSteps := 4000000) only [hg, encNote, mNote, e1, e2, e5, method_specs_simp, seval]
      refine ⟨by omega, by omega, by omega, by rw [mNotes_length]; omega, by kernel_rfl, by omega, by rw [mNotes_length]; omega, ?_⟩
      refine clY.con (c147 _ (by omega)) (by simp only [method_specs_simp]) ?_
      simp (maxSteps := 4000000) only [hg, encNote, mNote, e1, e2, e3, e4, e5, e6, method_specs_simp, seval]
      refine Again.mk (i + 1) [] h (Nat.sub_lt_sub_left h (Nat.lt_succ_self _)) ?_
      simp only [mvcgen_simp, method_specs_simp, seval]
    · simp only [decide_eq_false_iff_not, Bool.not_true, Int.ofNat_lt] at h
      rw [show i = n by omega]
theorem c98 (a k : Int) (n : Nat) (h0 : 0 ≤ k) (h1 : k < 2 ^ 40) (hx : n < 2 ^ 40) : Con P 98 [.agg [.int .i64 a, .sl 3 ((mNotes k n).map encNote)], .int .i64 k] (.int .i64 (k + 3 * n)) := by
  refine Con.of (n := 12) (rs := [.tmp 4]) (Is.fn Try.func98) rfl (Is.call Try.call98) Try.results98 Try.ntmps98 trivial ?_
  simp (maxSteps := 4000000) only [method_specs_simp, seval]
  refine clY.con (c99 k n h0 h1 hx) (by simp only [method_specs_simp]) ?_
  simp (maxSteps := 4000000) only [method_specs_simp, seval]
  refine gB_split (fun h => ?_) (fun h => ?_)
  · simp only [decide_eq_true_eq] at h; omega
  · trivial
theorem c32 (a k d c : Int) (n1 n2 : Nat) (h0 : 0 ≤ k) (h1 : k < 2 ^ 30) (hx1 : n1 < 2 ^ 30) (hx2 : n2 < 2 ^ 30) :
    Con P 32 [.agg [.int .i64 a, .sl 3 ((mNotes k n1).map encNote), .sl 3 ((mNotes (k + 3 * n1) n2).map encNote), .int .i64 d, .int .i64 c], .int .i64 k] (.int .i64 (k + 3 * n1 + 3 * n2)) := by
  refine Con.of (n := 18) (rs := [.tmp 4]) (Is.fn Try.func32) rfl (Is.call Try.call32) Try.results32 Try.ntmps32 trivial ?_
  simp (maxSteps := 4000000) only [method_specs_simp, seval]
  refine clY.con (c98 a k n1 h0 (by omega) (by omega)) (by simp only [method_specs_simp]) ?_
  simp (maxSteps := 4000000) only [method_specs_simp, seval]
  refine gB_split (fun h => ?_) (fun h => ?_)
  · simp only [decide_eq_true_eq] at h; omega
  · refine clY.con (c99 (k + 3 * n1) n2 (by omega) (by omega) (by omega)) (by simp only [method_specs_simp]) ?_
    simp (maxSteps := 4000000) only [method_specs_simp, seval]
    refine gB_split (fun h => ?_) (fun h => ?_)
    · simp only [decide_eq_true_eq] at h; omega
    · trivial
theorem c29 (a d c : Int) (xs ys : List Note) (hx : xs.length < 2 ^ 62) (hy : ys.length < 2 ^ 62) :
    Con P 29 [.agg [.int .i64 a, .sl 3 (xs.map encNote), .sl 3 (ys.map encNote), .int .i64 d, .int .i64 c], .agg [.int .i64 a, .sl 3 (xs.map encNote), .sl 3 (ys.map encNote), .int .i64 d, .int .i64 c]] (.bool true) := by
  have e5 : ∀ a : Int, (a != a) = false := fun a => by simp
  refine Con.of (n := 27) (rs := [.tmp 4]) (Is.fn Try.func29) rfl (Is.call Try.call29) Try.results29 Try.ntmps29 trivial ?_
  simp (maxSteps := 4000000) only [method_specs_simp, seval]
  refine clY.con (c19 a a xs xs hx) (by simp only [method_specs_simp]) ?_
  simp (maxSteps := 4000000) only [method_specs_simp, seval, e5, eqNoteS_same]
  refine clY.con (c81 ys ys hy) (by simp only [method_specs_simp]) ?_
  simp (maxSteps := 4000000) only [method_specs_simp, seval, e5, eqNoteS_same]
theorem n30g (a k : Int) (xs zs : List Note) (h0 : 0 ≤ k) (h1 : k < 2 ^ 50) (hx : xs.length < 2 ^ 50) : LCon P 30 [.agg [.int .i64 a, .ar 0 0 xs.length], .int .i64 k] [.arr true 3 ((xs ++ zs).map encNote)] (.int .i64 (k + 3 * xs.length)) [.arr true 3 ((mNotes k xs.length ++ zs).map encNote)] := by
  refine LCon.of (n := 10) (rs := [.tmp 4]) (Is.fn Try.func30) rfl (Is.call Try.call30) Try.results30 Try.ntmps30 ?_
  simp (maxSteps := 4000000) only [method_specs_simp, seval]
  refine clY.live [0] [] (n97g xs zs k h0 h1 hx) ?_ (Nat.le_refl _) ?_
  · simp only [mvcgen_simp, method_specs_simp, seval]
  · simp (maxSteps := 4000000) only [method_specs_simp, seval]
    refine LResY.mk [0] ?_
    simp only [mvcgen_simp, method_specs_simp, seval, mNotes_length]
theorem n30 (a k : Int) (xs : List Note) (h0 : 0 ≤ k) (h1 : k < 2 ^ 50) (hx : xs.length < 2 ^ 50) : LCon P 30 [.agg [.int .i64 a, .ar 0 0 xs.length], .int .i64 k] [.arr true 3 (xs.map encNote)] (.int .i64 (k + 3 * xs.length)) [.arr true 3 ((mNotes k xs.length).map encNote)] := by
  refine LCon.of (n := 10) (rs := [.tmp 4]) (Is.fn Try.func30) rfl (Is.call Try.call30) Try.results30 Try.ntmps30 ?_
  simp (maxSteps := 4000000) only [method_specs_simp, seval]
  refine clY.live [0] [] (n97 xs k h0 h1 hx) ?_ (Nat.le_refl _) ?_
  · simp only [mvcgen_simp, method_specs_simp, seval]
  · simp (maxSteps := 4000000) only [method_specs_simp, seval]
    refine LResY.mk [0] ?_
    simp only [mvcgen_simp, method_specs_simp, seval, mNotes_length]
theorem n31 (a k d c : Int) (xs ys : List Note) (h0 : 0 ≤ k) (h1 : k < 2 ^ 30) (hx : xs.length < 2 ^ 30) (hy : ys.length < 2 ^ 30) :
    LCon P 31 [.agg [.int .i64 a, .ar 0 0 xs.length, .ar 1 0 ys.length, .int .i64 d, .int .i64 c], .int .i64 k] [.arr true 3 (xs.map encNote), .arr true 3 (ys.map encNote)] (.int .i64 (k + 3 * xs.length + 3 * ys.length))
      [.arr true 3 ((mNotes k xs.length).map encNote), .arr true 3 ((mNotes (k + 3 * xs.length) ys.length).map encNote)] := by
  refine LCon.of (n := 14) (rs := [.tmp 4]) (Is.fn Try.func31) rfl (Is.call Try.call31) Try.results31 Try.ntmps31 ?_
  simp (maxSteps := 4000000) only [method_specs_simp, seval]
  refine clY.live [0] [] (n30 a k xs h0 (by omega) (by omega)) ?_ (Nat.le_refl _) ?_
  · simp only [mvcgen_simp, method_specs_simp, seval]
  · simp (maxSteps := 4000000) only [method_specs_simp, seval]
    refine clY.live [1] [] (n97 ys (k + 3 * xs.length) (by omega) (by omega) (by omega)) ?_ (Nat.le_refl _) ?_
    · simp only [mvcgen_simp, method_specs_simp, seval]
    · simp (maxSteps := 4000000) only [method_specs_simp, seval]
      refine LResY.mk [0, 1] ?_
      simp only [mvcgen_simp, method_specs_simp, seval, mNotes_length]
end
end Go.Proofs.Ytkdaijcdddomjaa
