/- InboxAck of the reference and of the program, and the law FnExactInboxAck hands back true. No conditions but lengths and bounds of numbers. -/
import Derived.Test.YtkdaijcdddomjaaI18
namespace Go.Proofs.Ytkdaijcdddomjaa
open Go.Pm
set_option maxRecDepth 10000
set_option linter.unusedSimpArgs false
theorem take_app {α β : Type} {f : α → β} {l r : List α} : List.take l.length (List.map f (l ++ r)) = List.map f l := by
  rw [← List.map_take, List.take_left]
theorem take_marks2 {k : Int} {n : Nat} {r : List Note} : List.take n (List.map encNote (mNotes k n ++ r)) = List.map encNote (mNotes k n) := by
  have := take_app (f := encNote) (l := mNotes k n) (r := r)
  rwa [mNotes_length] at this
attribute [method_specs_simp] take_app take_marks2
section
variable {P : Program} [Is P]
theorem n31g (a k d c : Int) (xs zs : List Note) (h0 : 0 ≤ k) (h1 : k < 2 ^ 30) (hx : xs.length < 2 ^ 30) :
    LCon P 31 [.agg [.int .i64 a, .ar 0 0 xs.length, .nil, .int .i64 d, .int .i64 c], .int .i64 k] [.arr true 3 ((xs ++ zs).map encNote)] (.int .i64 (k + 3 * xs.length)) [.arr true 3 ((mNotes k xs.length ++ zs).map encNote)] := by
  refine LCon.of (n := 14) (rs := [.tmp 4]) (Is.fn Try.func31) rfl (Is.call Try.call31) Try.results31 Try.ntmps31 ?_
  simp (maxSteps := 4000000) only [method_specs_simp, seval]
  refine clY.live [0] [] (n30g a k xs zs h0 (by omega) (by omega)) ?_ (Nat.le_refl _) ?_
  · simp only [mvcgen_simp, method_specs_simp, seval]
  · simp (maxSteps := 4000000) only [method_specs_simp, seval]
    refine clY.con (c97m _) (by simp only [method_specs_simp]) ?_
    simp (maxSteps := 4000000) only [method_specs_simp, seval]
    refine LResY.mk [0] ?_
    simp only [mvcgen_simp, method_specs_simp, seval, mNotes_length]
theorem c37e (n num : Int) (xs : List Note) (hx : xs.length < 2 ^ 62) (bad : (specOk n xs && isB num 0 n) = false) : ∃ c : Int, Con P 37 [.agg [.int .i64 n, .sl 3 (xs.map encNote)], .int .i64 num] (.agg (errCells c)) ∧ Con P 38 [.agg [.int .i64 n, .sl 3 (xs.map encNote)], .int .i64 num] (.agg (errCells c)) := by
  cases ok : specOk n xs with
  | false =>
    refine ⟨1, ?_, ?_⟩
    · refine Con.of (n := 47) (rs := [.cell 4 42]) (Is.fn Try.func37) rfl (Is.call Try.call37) Try.results37 Try.ntmps37 (by simp only [method_specs_simp, errCells]) ?_
      simp (maxSteps := 4000000) only [method_specs_simp, seval]
      refine clY.con (c16 _ _ hx) (by simp only [method_specs_simp]) ?_
      simp (maxSteps := 4000000) only [method_specs_simp, seval, ok]
      refine clY.con (c93 1) (by simp only [method_specs_simp]) ?_
      simp (maxSteps := 4000000) only [method_specs_simp, seval, errCells]
    · refine Con.of (n := 27) (rs := [.cell 4 42]) (Is.fn Try.func38) rfl (Is.call Try.call38) Try.results38 Try.ntmps38 (by simp only [method_specs_simp, errCells]) ?_
      simp (maxSteps := 4000000) only [method_specs_simp, seval]
      refine clY.con (c18 _ _ hx) (by simp only [method_specs_simp]) ?_
      rw [← spec_impl]
      simp (maxSteps := 4000000) only [method_specs_simp, seval, ok, errCells]
  | true =>
    rw [ok, Bool.true_and] at bad
    refine ⟨8, ?_, ?_⟩
    · refine Con.of (n := 47) (rs := [.cell 4 42]) (Is.fn Try.func37) rfl (Is.call Try.call37) Try.results37 Try.ntmps37 (by simp only [method_specs_simp, errCells]) ?_
      simp (maxSteps := 4000000) only [method_specs_simp, seval]
      refine clY.con (c16 _ _ hx) (by simp only [method_specs_simp]) ?_
      simp (maxSteps := 4000000) only [method_specs_simp, seval, ok]
      refine clY.con (c75 _ _ _) (by simp only [method_specs_simp]) ?_
      simp (maxSteps := 4000000) only [method_specs_simp, seval, bad]
      refine clY.con (c93 8) (by simp only [method_specs_simp]) ?_
      simp (maxSteps := 4000000) only [method_specs_simp, seval, errCells]
    · refine Con.of (n := 27) (rs := [.cell 4 42]) (Is.fn Try.func38) rfl (Is.call Try.call38) Try.results38 Try.ntmps38 (by simp only [method_specs_simp, errCells]) ?_
      simp (maxSteps := 4000000) only [method_specs_simp, seval]
      refine clY.con (c18 _ _ hx) (by simp only [method_specs_simp]) ?_
      rw [← spec_impl]
      simp (maxSteps := 4000000) only [method_specs_simp, seval, ok]
      refine clY.con (c78 _ _ _) (by simp only [method_specs_simp]) ?_
      simp (maxSteps := 4000000) only [method_specs_simp, seval, bad, errCells]
theorem n38 (n num : Int) (xs : List Note) (ok : specOk n xs = true) (ol : isB num 0 n = true) : NCon P 38 [.agg [.int .i64 n, .sl 3 (xs.map encNote)], .int .i64 num]
    (.agg [.int .i64 n, .ar 0 0 (kept num xs).length, .nil, .int .i64 0, .int .i64 0]) [.arr true 3 ((kept num xs ++ List.replicate (xs.length - (kept num xs).length) note0).map encNote)] := by
  obtain ⟨b1, b2, b3⟩ := bounds_of ok
  refine LCon.new (LCon.of (n := 27) (rs := [.cell 4 42]) (Is.fn Try.func38) rfl (Is.call Try.call38) Try.results38 Try.ntmps38 ?_) (pure1 (pure_notes _ _))
  simp (maxSteps := 4000000) only [method_specs_simp, seval]
  refine clY.con (c18 _ _ (by omega)) (by simp only [method_specs_simp]) ?_
  rw [← spec_impl]
  simp (maxSteps := 4000000) only [method_specs_simp, seval, ok]
  refine clY.con (c78 _ _ _) (by simp only [method_specs_simp]) ?_
  simp (maxSteps := 4000000) only [method_specs_simp, seval, ol]
  refine clY.new (n95 n xs (by omega)) (by simp only [method_specs_simp]) ?_
  simp (maxSteps := 4000000) only [method_specs_simp, seval]
  refine clY.live [3] [1] (n102 num xs (by omega)) ?_ (Nat.le_refl _) ?_
  · simp only [mvcgen_simp, method_specs_simp, seval]
  simp (maxSteps := 4000000) only [method_specs_simp, seval]
  refine LResY.mk [3] ?_
  simp only [mvcgen_simp, method_specs_simp, seval]
theorem c37 (n num : Int) (xs : List Note) (ok : specOk n xs = true) (ol : isB num 0 n = true) : Con P 37 [.agg [.int .i64 n, .sl 3 (xs.map encNote)], .int .i64 num]
    (.agg [.int .i64 n, .sl 3 ((kept num xs).map encNote), .nil, .int .i64 0, .int .i64 0]) := by
  obtain ⟨b1, b2, b3⟩ := bounds_of ok
  refine Con.of (n := 47) (rs := [.cell 4 42]) (Is.fn Try.func37) rfl (Is.call Try.call37) Try.results37 Try.ntmps37 (by simp only [method_specs_simp]) ?_
  simp (maxSteps := 4000000) only [method_specs_simp, seval]
  refine clY.con (c16 _ _ (by omega)) (by simp only [method_specs_simp]) ?_
  simp (maxSteps := 4000000) only [method_specs_simp, seval, ok]
  refine clY.con (c75 _ _ _) (by simp only [method_specs_simp]) ?_
  simp (maxSteps := 4000000) only [method_specs_simp, seval, ol]
  refine SW.nilcell 2 1 3 rfl rfl (by decide) ?_
  refine SW.while (A := Nat) (fun i => ⟨pad 47 [.agg [.int .i64 n, .sl 3 (xs.map encNote)], .int .i64 num, .ptr 0 0, .junk, .ptr 1 0, .ptr 2 0, .int .i64 i], [.box true [.int .i64 n, .sl 3 (xs.map encNote)], .box true [.int .i64 0, .nil, .nil, .int .i64 0, .int .i64 0], .box true [.int .i64 n, .ar 3 0 (kept num (xs.take i)).length], .arr true 3 ((kept num (xs.take i)).map encNote)], []⟩)
    (fun i => xs.length - i) (fun i => i ≤ xs.length) 0 [0, 1, 2, 3] (Nat.zero_le _) ?_ ?_
  · simp only [List.take_zero, kept, List.filter_nil]
    simp only [mvcgen_simp, method_specs_simp, seval]
  · intro i hi
    have hki : (kept num (xs.take i)).length ≤ i := by
      have := kept_le num (xs.take i)
      rw [List.length_take] at this; omega
    refine CW.sound ?_
    simp (maxSteps := 4000000) only [method_specs_simp, seval]
    refine gB_split (fun h => ?_) (fun h => ?_)
    · simp only [decide_eq_true_eq, Int.ofNat_lt] at h
      have hxk : xs[i]? = some xs[i] := List.getElem?_eq_getElem h
      generalize xs[i] = x at hxk
      have hks : kept num (xs.take (i + 1)) = kept num (xs.take i) ++ (if keepB num x then [x] else []) := by rw [take_s hxk, kept_snoc]
      simp (maxSteps := 4000000) only [hxk, encNote, method_specs_simp, seval]
      refine ⟨by omega, by omega, ?_⟩
      have wi : IntKind.i64.wrap ((i : Int) + 1) = (i : Int) + 1 := wrap_id (by omega) (by omega)
      rw [wi]
      refine gB_split (fun h3 => ?_) (fun h3 => ?_)
      · have hkp : keepB num x = true := by
          simp only [decide_eq_true_eq] at h3
          simp [keepB, goneB]; omega
        rw [if_pos hkp] at hks
        generalize kept num (xs.take i) = c at *
        refine ⟨by kernel_rfl, by omega, by omega, by omega, by omega, ?_⟩
        refine Again.mk (i + 1) [0, 1, 2, 5] h (Nat.sub_lt_sub_left h (Nat.lt_succ_self _)) ?_
        have e : List.map encNote c ++ [[V.int IntKind.i64 x.num, V.int IntKind.i64 x.frm, V.str x.text]] = List.map encNote (c ++ [x]) := by simp [encNote]
        rw [e, hks]
        simp only [mvcgen_simp, method_specs_simp, seval]
      · have hkp : keepB num x = false := by
          simp only [decide_eq_false_iff_not, Bool.not_true] at h3
          simp [keepB, goneB]; omega
        rw [if_neg (by simp [hkp]), List.append_nil] at hks
        refine Again.mk (i + 1) [0, 1, 2, 3] h (Nat.sub_lt_sub_left h (Nat.lt_succ_self _)) ?_
        rw [hks]
        simp only [mvcgen_simp, method_specs_simp, seval]
    · simp only [decide_eq_false_iff_not, Bool.not_true, Int.ofNat_lt] at h
      have hib : i = xs.length := by omega
      subst hib
      rw [List.take_of_length_le (Nat.le_refl _)]
end
end Go.Proofs.Ytkdaijcdddomjaa
