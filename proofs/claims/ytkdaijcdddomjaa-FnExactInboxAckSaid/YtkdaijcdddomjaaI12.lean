/- InboxPut of the reference and of the program. No conditions but lengths and bounds of numbers. -/
import Derived.Test.YtkdaijcdddomjaaI10
namespace Go.Proofs.Ytkdaijcdddomjaa
open Go.Pm
set_option maxRecDepth 10000
set_option linter.unusedSimpArgs false
theorem map_snoc (xs : List Note) (x : Note) : (xs ++ [x]).map encNote = xs.map encNote ++ [[.int .i64 x.num, .int .i64 x.frm, .str x.text]] := by simp [encNote]
section
variable {P : Program} [Is P]
theorem n101 (n frm : Int) (text : ByteArray) (xs : List Note) (hn : -9223372036854775808 ≤ n + 1) (hn2 : n + 1 < 9223372036854775808) (hx : (xs.length + 1) * 32 ≤ 2 ^ 47) :
    LCon P 101 [.ptr 0 0, .int .i64 frm, .str text] [.box true [.int .i64 n, .ar 1 0 xs.length], .arr true 3 (xs.map encNote)] (.tup [])
      [.box true [.int .i64 (n + 1), .ar 2 0 (xs.length + 1)], .dead, .arr true 3 ((xs ++ [(⟨n + 1, frm, text⟩ : Note)]).map encNote)] := by
  refine LCon.ofS (n := 29) (rs := []) (Is.fn Try.func101) rfl (Is.call Try.call101) Try.results101 Try.ntmps101 (SW.seq (CW.sound ?_))
  simp (maxSteps := 4000000) only [method_specs_simp, seval]
  rw [wrap_id hn hn2]
  refine SW.drawnF [0] 13 mixed (by kernel_rfl) (by kernel_rfl) (by kernel_rfl) (fun c st h => finL_p h) ?_
  show RQi P _ _ _ _ _
  simp (maxSteps := 4000000) only [method_specs_simp, seval]
  refine ⟨by omega, by omega, ?_⟩
  have e : List.map encNote xs ++ [[V.int IntKind.i64 (n + 1), V.int IntKind.i64 frm, V.str text]] = List.map encNote (xs ++ [(⟨n + 1, frm, text⟩ : Note)]) := by rw [map_snoc]
  rw [e]
  refine LResY.mk [0, 1, 3] ?_
  simp only [mvcgen_simp, method_specs_simp, seval]
theorem bounds_of {n : Int} {xs : List Note} (ok : specOk n xs = true) : 0 ≤ n ∧ n ≤ 1000000 ∧ xs.length ≤ 30 := by
  unfold specOk isB at ok
  simp only [Bool.and_eq_true, Bool.not_eq_true', Bool.or_eq_false_iff, Bool.not_eq_false', decide_eq_true_eq, decide_eq_false_iff_not] at ok
  omega
/-- Whether a box is full. -/
def fullB (n : Int) (xs : List Note) : Bool := decide ((xs.length : Int) ≥ 30) || decide (n ≥ 1000000)
def putCells (n frm : Int) (text : ByteArray) (xs : List Note) : List V := [.int .i64 (n + 1), .sl 3 ((xs ++ [(⟨n + 1, frm, text⟩ : Note)]).map encNote), .nil, .int .i64 (n + 1), .int .i64 0]
theorem c100e (n frm : Int) (text : ByteArray) (xs : List Note) (hf : fullB n xs = true) : Con P 100 [.agg [.int .i64 n, .sl 3 (xs.map encNote)], .int .i64 frm, .str text] (.agg [.int .i64 0, .nil, .nil, .int .i64 0, .int .i64 9]) := by
  refine Con.of (n := 38) (rs := [.cell 6 42]) (Is.fn Try.func100) rfl (Is.call Try.call100) Try.results100 Try.ntmps100 (by simp only [method_specs_simp]) ?_
  simp (maxSteps := 4000000) only [method_specs_simp, seval]
  unfold fullB at hf
  refine gB_split (fun h => ?_) (fun h => ?_)
  · rw [h, Bool.false_or] at hf
    rw [hf]
    simp (maxSteps := 4000000) only [method_specs_simp, seval]
    refine clY.con (c93 9) (by simp only [method_specs_simp]) ?_
    simp (maxSteps := 4000000) only [method_specs_simp, seval]
  · refine clY.con (c93 9) (by simp only [method_specs_simp]) ?_
    simp (maxSteps := 4000000) only [method_specs_simp, seval]
theorem n94 (n : Int) (xs : List Note) (hx : xs.length * 32 ≤ 2 ^ 47) : NCon P 94 [.agg [.int .i64 n, .sl 3 (xs.map encNote)]] (.agg [.int .i64 n, .ar 0 0 xs.length]) [.arr true 3 (xs.map encNote)] := by
  refine LCon.new (LCon.ofS (n := 10) (rs := [.cell 2 29]) (Is.fn Try.func94) rfl (Is.call Try.call94) Try.results94 Try.ntmps94 ?_) (pure1 (pure_notes _ _))
  refine SW.seq (CW.sound ?_)
  simp (maxSteps := 4000000) only [method_specs_simp, seval]
  refine SW.seq (SW.drawn 7 mixed (by kernel_rfl) ?_)
  show RQi P _ _ _ _ _
  simp (maxSteps := 4000000) only [method_specs_simp, seval]
  refine ⟨by omega, by omega, ?_⟩
  refine CW.sound ?_
  simp (maxSteps := 4000000) only [method_specs_simp, seval]
  refine LResY.mk [2] ?_
  simp only [mvcgen_simp, method_specs_simp, seval]
theorem c100 (n frm : Int) (text : ByteArray) (xs : List Note) (hn : 0 ≤ n) (hf : fullB n xs = false) : Con P 100 [.agg [.int .i64 n, .sl 3 (xs.map encNote)], .int .i64 frm, .str text] (.agg (putCells n frm text xs)) := by
  unfold fullB at hf
  rw [Bool.or_eq_false_iff] at hf
  have h1 := hf.1
  have h2 := hf.2
  simp only [decide_eq_false_iff_not] at h1 h2
  refine Con.of (n := 38) (rs := [.cell 6 42]) (Is.fn Try.func100) rfl (Is.call Try.call100) Try.results100 Try.ntmps100 (by simp only [method_specs_simp, putCells]) ?_
  simp (maxSteps := 4000000) only [method_specs_simp, seval, hf.1, hf.2]
  refine clY.new (n94 n xs (by omega)) (by simp only [method_specs_simp]) ?_
  simp (maxSteps := 4000000) only [method_specs_simp, seval]
  rw [wrap_id (by omega) (by omega)]
  have e : List.map encNote xs ++ [[V.int IntKind.i64 (n + 1), V.int IntKind.i64 frm, V.str text]] = List.map encNote (xs ++ [(⟨n + 1, frm, text⟩ : Note)]) := by rw [map_snoc]
  rw [e, List.take_of_length_le (by simp)]
  exact ⟨by omega, by omega, by simp only [method_specs_simp], rfl⟩
def errCells (c : Int) : List V := [.int .i64 0, .nil, .nil, .int .i64 0, .int .i64 c]
def putCode (n frm : Int) (text : ByteArray) (xs : List Note) : Int := if decide ((text.size : Int) > 8000) = true then 2 else if (!specOk n xs || !isB frm 1 6 || decide ((text.size : Int) > 30)) = true then 1 else if fullB n xs = true then 9 else 0
theorem c33e (n frm : Int) (text : ByteArray) (xs : List Note) (hx : xs.length < 2 ^ 62) (h0 : putCode n frm text xs ≠ 0) : Con P 33 [.agg [.int .i64 n, .sl 3 (xs.map encNote)], .int .i64 frm, .str text] (.agg (errCells (putCode n frm text xs))) := by
  generalize hc : putCode n frm text xs = c at *
  unfold putCode at hc
  refine Con.of (n := 29) (rs := [.cell 6 42]) (Is.fn Try.func33) rfl (Is.call Try.call33) Try.results33 Try.ntmps33 (by simp only [method_specs_simp, errCells]) ?_
  simp (maxSteps := 4000000) only [method_specs_simp, seval]
  cases h8 : decide ((text.size : Int) > 8000) with
  | true =>
    rw [h8, if_pos rfl] at hc
    subst hc
    simp (maxSteps := 4000000) only [method_specs_simp, seval]
    refine clY.con (c93 2) (by simp only [method_specs_simp]) ?_
    simp (maxSteps := 4000000) only [method_specs_simp, seval, errCells]
  | false =>
    rw [h8, if_neg (by simp)] at hc
    simp (maxSteps := 4000000) only [method_specs_simp, seval]
    refine clY.con (c16 _ _ hx) (by simp only [method_specs_simp]) ?_
    simp (maxSteps := 4000000) only [method_specs_simp, seval]
    cases ok : specOk n xs with
    | false =>
      rw [ok] at hc
      simp only [Bool.not_false, Bool.true_or, if_true] at hc
      subst hc
      simp (maxSteps := 4000000) only [method_specs_simp, seval]
      refine clY.con (c93 1) (by simp only [method_specs_simp]) ?_
      simp (maxSteps := 4000000) only [method_specs_simp, seval, errCells]
    | true =>
      obtain ⟨b1, b2, b3⟩ := bounds_of ok
      simp (maxSteps := 4000000) only [method_specs_simp, seval]
      refine clY.con (c76 _) (by simp only [method_specs_simp]) ?_
      simp (maxSteps := 4000000) only [method_specs_simp, seval]
      cases fb : isB frm 1 6 with
      | false =>
        rw [ok, fb] at hc
        simp only [Bool.not_false, Bool.not_true, Bool.true_or, Bool.false_or, if_true] at hc
        subst hc
        simp (maxSteps := 4000000) only [method_specs_simp, seval]
        refine clY.con (c93 1) (by simp only [method_specs_simp]) ?_
        simp (maxSteps := 4000000) only [method_specs_simp, seval, errCells]
      | true =>
        simp (maxSteps := 4000000) only [method_specs_simp, seval]
        cases t3 : decide ((text.size : Int) > 30) with
        | true =>
          rw [ok, fb, t3] at hc
          simp only [Bool.not_true, Bool.or_true, Bool.false_or, if_true] at hc
          subst hc
          simp (maxSteps := 4000000) only [method_specs_simp, seval]
          refine clY.con (c93 1) (by simp only [method_specs_simp]) ?_
          simp (maxSteps := 4000000) only [method_specs_simp, seval, errCells]
        | false =>
          rw [ok, fb, t3] at hc
          simp only [Bool.not_true, Bool.or_false, Bool.false_eq_true, if_false] at hc
          simp (maxSteps := 4000000) only [method_specs_simp, seval]
          cases fu : fullB n xs with
          | true =>
            rw [fu, if_pos rfl] at hc
            subst hc
            refine clY.con (c100e n frm text xs fu) (by simp only [method_specs_simp]) ?_
            simp (maxSteps := 4000000) only [method_specs_simp, seval, errCells]
          | false =>
            rw [fu, if_neg (by simp)] at hc
            exact absurd hc.symm h0
theorem putCode_0 {n frm : Int} {text : ByteArray} {xs : List Note} (h : putCode n frm text xs = 0) : decide ((text.size : Int) > 8000) = false ∧ specOk n xs = true ∧ isB frm 1 6 = true ∧ decide ((text.size : Int) > 30) = false ∧ fullB n xs = false := by
  unfold putCode at h
  split at h
  · cases h
  · rename_i h1
    split at h
    · cases h
    · rename_i h2
      split at h
      · cases h
      · rename_i h3
        simp only [Bool.or_eq_true, Bool.not_eq_true', not_or, Bool.not_eq_false, Bool.not_eq_true] at h2
        exact ⟨by simpa using h1, h2.1.1, h2.1.2, h2.2, by simpa using h3⟩
theorem c33 (n frm : Int) (text : ByteArray) (xs : List Note) (h0 : putCode n frm text xs = 0) : Con P 33 [.agg [.int .i64 n, .sl 3 (xs.map encNote)], .int .i64 frm, .str text] (.agg (putCells n frm text xs)) := by
  obtain ⟨h8, ok, fb, t3, fu⟩ := putCode_0 h0
  obtain ⟨b1, b2, b3⟩ := bounds_of ok
  refine Con.of (n := 29) (rs := [.cell 6 42]) (Is.fn Try.func33) rfl (Is.call Try.call33) Try.results33 Try.ntmps33 (by simp only [method_specs_simp, putCells]) ?_
  simp (maxSteps := 4000000) only [method_specs_simp, seval, h8]
  refine clY.con (c16 _ _ (by omega)) (by simp only [method_specs_simp]) ?_
  simp (maxSteps := 4000000) only [method_specs_simp, seval, ok]
  refine clY.con (c76 _) (by simp only [method_specs_simp]) ?_
  simp (maxSteps := 4000000) only [method_specs_simp, seval, fb, t3]
  refine clY.con (c100 n frm text xs b1 fu) (by simp only [method_specs_simp]) ?_
  simp (maxSteps := 4000000) only [method_specs_simp, seval, putCells]
theorem c34e (n frm : Int) (text : ByteArray) (xs : List Note) (hx : xs.length < 2 ^ 62) (h0 : putCode n frm text xs ≠ 0) : Con P 34 [.agg [.int .i64 n, .sl 3 (xs.map encNote)], .int .i64 frm, .str text] (.agg (errCells (putCode n frm text xs))) := by
  generalize hc : putCode n frm text xs = c at *
  unfold putCode at hc
  refine Con.of (n := 48) (rs := [.cell 6 42]) (Is.fn Try.func34) rfl (Is.call Try.call34) Try.results34 Try.ntmps34 (by simp only [method_specs_simp, errCells]) ?_
  simp (maxSteps := 4000000) only [method_specs_simp, seval]
  cases h8 : decide ((text.size : Int) > 8000) with
  | true =>
    rw [h8, if_pos rfl] at hc
    subst hc
    simp (maxSteps := 4000000) only [method_specs_simp, seval, errCells]
  | false =>
    rw [h8, if_neg (by simp)] at hc
    simp (maxSteps := 4000000) only [method_specs_simp, seval]
    refine clY.con (c18 _ _ hx) (by simp only [method_specs_simp]) ?_
    rw [← spec_impl]
    simp (maxSteps := 4000000) only [method_specs_simp, seval]
    cases ok : specOk n xs with
    | false =>
      rw [ok] at hc
      simp only [Bool.not_false, Bool.true_or, if_true] at hc
      subst hc
      simp (maxSteps := 4000000) only [method_specs_simp, seval, errCells]
    | true =>
      obtain ⟨b1, b2, b3⟩ := bounds_of ok
      simp (maxSteps := 4000000) only [method_specs_simp, seval]
      refine clY.con (c79 _) (by simp only [method_specs_simp]) ?_
      simp (maxSteps := 4000000) only [method_specs_simp, seval]
      cases fb : isB frm 1 6 with
      | false =>
        rw [ok, fb] at hc
        simp only [Bool.not_false, Bool.not_true, Bool.true_or, Bool.false_or, if_true] at hc
        subst hc
        simp (maxSteps := 4000000) only [method_specs_simp, seval, errCells]
      | true =>
        simp (maxSteps := 4000000) only [method_specs_simp, seval]
        cases t3 : decide ((text.size : Int) > 30) with
        | true =>
          rw [ok, fb, t3] at hc
          simp only [Bool.not_true, Bool.or_true, Bool.false_or, if_true] at hc
          subst hc
          simp (maxSteps := 4000000) only [method_specs_simp, seval, errCells]
        | false =>
          rw [ok, fb, t3] at hc
          simp only [Bool.not_true, Bool.or_false, Bool.false_eq_true, if_false] at hc
          simp (maxSteps := 4000000) only [method_specs_simp, seval]
          cases fu : fullB n xs with
          | false =>
            rw [fu, if_neg (by simp)] at hc
            exact absurd hc.symm h0
          | true =>
            rw [fu, if_pos rfl] at hc
            subst hc
            unfold fullB at fu
            cases hl : ((xs.length : Int) == 30) with
            | true => simp (maxSteps := 4000000) only [method_specs_simp, seval, errCells]
            | false =>
              have hn : (n == 1000000) = true := by
                simp only [Bool.or_eq_true, decide_eq_true_eq, beq_eq_false_iff_ne] at fu hl
                rw [beq_iff_eq]
                omega
              simp (maxSteps := 4000000) only [method_specs_simp, seval, hn, errCells]
theorem n34 (n frm : Int) (text : ByteArray) (xs : List Note) (h0 : putCode n frm text xs = 0) : NCon P 34 [.agg [.int .i64 n, .sl 3 (xs.map encNote)], .int .i64 frm, .str text]
    (.agg [.int .i64 (n + 1), .ar 0 0 (xs.length + 1), .nil, .int .i64 (n + 1), .int .i64 0]) [.arr true 3 ((xs ++ [(⟨n + 1, frm, text⟩ : Note)]).map encNote)] := by
  obtain ⟨h8, ok, fb, t3, fu⟩ := putCode_0 h0
  obtain ⟨b1, b2, b3⟩ := bounds_of ok
  have hl : ((xs.length : Int) == 30) = false := by
    unfold fullB at fu
    simp only [Bool.or_eq_false_iff, decide_eq_false_iff_not] at fu
    rw [beq_eq_false_iff_ne]; omega
  have hn : (n == 1000000) = false := by
    unfold fullB at fu
    simp only [Bool.or_eq_false_iff, decide_eq_false_iff_not] at fu
    rw [beq_eq_false_iff_ne]; omega
  refine LCon.new (LCon.of (n := 48) (rs := [.cell 6 42]) (Is.fn Try.func34) rfl (Is.call Try.call34) Try.results34 Try.ntmps34 ?_) (pure1 (pure_notes _ _))
  simp (maxSteps := 4000000) only [method_specs_simp, seval, h8]
  refine clY.con (c18 _ _ (by omega)) (by simp only [method_specs_simp]) ?_
  rw [← spec_impl]
  simp (maxSteps := 4000000) only [method_specs_simp, seval, ok]
  refine clY.con (c79 _) (by simp only [method_specs_simp]) ?_
  simp (maxSteps := 4000000) only [method_specs_simp, seval, fb, t3, hl, hn]
  refine clY.new (n95 n xs (by omega)) (by simp only [method_specs_simp]) ?_
  simp (maxSteps := 4000000) only [method_specs_simp, seval]
  refine clY.live [3, 2] [] (n101 n frm text xs (by omega) (by omega) (by omega)) ?_ (by simp) ?_
  · simp only [mvcgen_simp, method_specs_simp, seval]
  simp (maxSteps := 4000000) only [method_specs_simp, seval]
  refine LResY.mk [4] ?_
  simp only [mvcgen_simp, method_specs_simp, seval]
end
end Go.Proofs.Ytkdaijcdddomjaa
