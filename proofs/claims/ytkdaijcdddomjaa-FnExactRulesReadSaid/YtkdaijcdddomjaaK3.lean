/- Readers of numbers and of texts, of the reference and of the program. No conditions but bounds of sizes. -/
import Derived.Test.YtkdaijcdddomjaaK2
import Derived.Test.YtkdaijcdddomjaaPm27
namespace Go.Proofs.Ytkdaijcdddomjaa
open Go.Pm
set_option maxRecDepth 10000
set_option linter.unusedSimpArgs false
set_option linter.unusedVariables false
/-- Where a reader stands, and whether it has failed. -/
structure Rd where
  pos : Nat
  bad : Bool
def encRd (t : ByteArray) (s : Rd) : List V := [.str t, .int .i64 s.pos, .bool s.bad]
def sNum (t : ByteArray) (s : Rd) : Int × Rd := if s.bad = true ∨ (getN t s.pos).code ≠ 0 then (0, ⟨s.pos, true⟩) else ((getN t s.pos).n, ⟨(getN t s.pos).pos.toNat, false⟩)
def sText (t : ByteArray) (s : Rd) : ByteArray × Rd := if s.bad = true ∨ (getT t s.pos).code ≠ 0 then (⟨#[]⟩, ⟨s.pos, true⟩) else ((getT t s.pos).s, ⟨(getT t s.pos).pos.toNat, false⟩)
def iNum (t : ByteArray) (s : Rd) : Int × Rd := ((getN t s.pos).n, ⟨(getN t s.pos).pos.toNat, s.bad || ((getN t s.pos).code != 0)⟩)
def iText (t : ByteArray) (s : Rd) : ByteArray × Rd := ((getT t s.pos).s, ⟨(getT t s.pos).pos.toNat, s.bad || ((getT t s.pos).code != 0)⟩)
section
variable {P : Program} [Is P]
theorem n109 (t : ByteArray) (s : Rd) (ht : t.size ≤ 8000) (ha : s.pos ≤ 8000) : LCon P 109 [.ptr 0 0] [.box true (encRd t s)] (.int .i64 (sNum t s).1) [.box true (encRd t (sNum t s).2)] := by
  refine LCon.of (n := 32) (rs := [.tmp 2]) (Is.fn Try.func109) rfl (Is.call Try.call109) Try.results109 Try.ntmps109 ?_
  obtain ⟨a, bad⟩ := s
  simp only at ha
  simp (maxSteps := 4000000) only [method_specs_simp, seval, encRd]
  refine ⟨by kernel_rfl, ?_⟩
  refine clY.con (c149 t a ht ha) (by simp only [method_specs_simp]) ?_
  have hb := getN_b t a
  unfold sNum
  simp only
  generalize getN t a = g at *
  obtain ⟨n, p, c⟩ := g
  simp only at hb
  simp (maxSteps := 4000000) only [method_specs_simp, seval, encGN]
  have hp : (p.toNat : Int) = p := Int.toNat_of_nonneg hb.1
  cases bad with
  | true =>
    rw [if_pos (.inl rfl)]
    simp only [method_specs_simp]
    refine LResY.mk [0] ?_
    simp only [mvcgen_simp, method_specs_simp, seval, encRd]
  | false =>
    simp only [method_specs_simp]
    refine gB_split (fun h => ?_) (fun h => ?_)
    · simp only [bne_iff_ne] at h
      rw [if_pos (.inr h)]
      refine LResY.mk [0] ?_
      simp only [mvcgen_simp, method_specs_simp, seval, encRd]
    · simp only [Bool.not_true, bne_eq_false_iff_eq] at h
      rw [if_neg (by simp [h])]
      refine LResY.mk [0] ?_
      simp only [mvcgen_simp, method_specs_simp, seval, hp, encRd]
theorem n110 (t : ByteArray) (s : Rd) (ht : t.size ≤ 8000) (ha : s.pos ≤ 8000) : LCon P 110 [.ptr 0 0] [.box true (encRd t s)] (.str (sText t s).1) [.box true (encRd t (sText t s).2)] := by
  refine LCon.of (n := 32) (rs := [.tmp 2]) (Is.fn Try.func110) rfl (Is.call Try.call110) Try.results110 Try.ntmps110 ?_
  obtain ⟨a, bad⟩ := s
  simp only at ha
  simp (maxSteps := 4000000) only [method_specs_simp, seval, encRd]
  refine ⟨by kernel_rfl, ?_⟩
  refine clY.con (c150 t a ht ha) (by simp only [method_specs_simp]) ?_
  have hb := getT_b t a
  unfold sText
  simp only
  generalize getT t a = g at *
  obtain ⟨n, p, c⟩ := g
  simp only at hb
  simp (maxSteps := 4000000) only [method_specs_simp, seval, encGT]
  have hp : (p.toNat : Int) = p := Int.toNat_of_nonneg hb.1
  cases bad with
  | true =>
    rw [if_pos (.inl rfl)]
    simp only [method_specs_simp]
    refine LResY.mk [0] ?_
    simp only [mvcgen_simp, method_specs_simp, seval, encRd]
  | false =>
    simp only [method_specs_simp]
    refine gB_split (fun h => ?_) (fun h => ?_)
    · simp only [bne_iff_ne] at h
      rw [if_pos (.inr h)]
      refine LResY.mk [0] ?_
      simp only [mvcgen_simp, method_specs_simp, seval, encRd]
    · simp only [Bool.not_true, bne_eq_false_iff_eq] at h
      rw [if_neg (by simp [h])]
      refine LResY.mk [0] ?_
      simp only [mvcgen_simp, method_specs_simp, seval, hp, encRd]
theorem n111 (t : ByteArray) (s : Rd) (ht : t.size ≤ 8000) (ha : s.pos ≤ 8000) : LCon P 111 [.ptr 0 0] [.box true (encRd t s)] (.int .i64 (iNum t s).1) [.box true (encRd t (iNum t s).2)] := by
  refine LCon.ofS (n := 32) (rs := [.tmp 2]) (Is.fn Try.func111) rfl (Is.call Try.call111) Try.results111 Try.ntmps111 (SW.seq (CW.sound ?_))
  obtain ⟨a, bad⟩ := s
  simp only at ha
  simp (maxSteps := 4000000) only [method_specs_simp, seval, encRd]
  refine SW.seq (CW.sound ?_)
  simp (maxSteps := 4000000) only [method_specs_simp, seval, encRd]
  refine ⟨by kernel_rfl, ?_⟩
  refine clY.con (c151 t a ht ha) (by simp only [method_specs_simp]) ?_
  have hb := getN_b t a
  unfold iNum
  simp only
  generalize getN t a = g at *
  obtain ⟨n, p, c⟩ := g
  simp only at hb
  have hp : (p.toNat : Int) = p := Int.toNat_of_nonneg hb.1
  simp (maxSteps := 4000000) only [method_specs_simp, seval, encGN]
  cases bad with
  | true =>
    refine SW.seq (SW.drawnS [1, 8, 9, 10, 11, 12] 15 [.box true [.str t, .int .i64 p, .bool true], .box true [.int .i64 n, .int .i64 p, .int .i64 c]] ?T mixed (by kernel_rfl) (by kernel_rfl) rfl ?h0 ?hst ?h1 ?h2)
    case h0 =>
      simp only [List.take_succ_cons, List.take_zero]
      show RQi P _ _ _ _ _
      simp (maxSteps := 4000000) only [method_specs_simp, seval]
      rfl
    case hst => simp (maxSteps := 4000000) only [method_specs_simp, seval]
    case h1 =>
      simp only [List.take_succ_cons, List.take_zero]
      show RQi P _ _ _ _ _
      simp (maxSteps := 4000000) only [method_specs_simp, seval]
    case h2 =>
      simp only [List.drop_succ_cons, List.drop_zero]
      show RSi P _ _ _ _
      simp (maxSteps := 4000000) only [method_specs_simp, seval]
      refine CW.sound ?_
      simp (maxSteps := 4000000) only [method_specs_simp, seval]
      refine LResY.mk [0] ?_
      simp only [mvcgen_simp, method_specs_simp, seval, encRd, hp, Bool.true_or, Bool.false_or]
  | false =>
    refine SW.seq (SW.drawnS [1, 8, 9, 10, 11, 12] 15 [.box true [.str t, .int .i64 p, .bool false], .box true [.int .i64 n, .int .i64 p, .int .i64 c]] ?U mixed (by kernel_rfl) (by kernel_rfl) rfl ?h0 ?hst ?h1 ?h2)
    case h0 =>
      simp only [List.take_succ_cons, List.take_zero]
      show RQi P _ _ _ _ _
      simp (maxSteps := 4000000) only [method_specs_simp, seval]
      rfl
    case hst => simp (maxSteps := 4000000) only [method_specs_simp, seval]
    case h1 =>
      simp only [List.take_succ_cons, List.take_zero]
      show RQi P _ _ _ _ _
      simp (maxSteps := 4000000) only [method_specs_simp, seval]
    case h2 =>
      simp only [List.drop_succ_cons, List.drop_zero]
      show RSi P _ _ _ _
      simp (maxSteps := 4000000) only [method_specs_simp, seval]
      refine CW.sound ?_
      simp (maxSteps := 4000000) only [method_specs_simp, seval]
      refine LResY.mk [0] ?_
      simp only [mvcgen_simp, method_specs_simp, seval, encRd, hp, Bool.true_or, Bool.false_or]
theorem n112 (t : ByteArray) (s : Rd) (ht : t.size ≤ 8000) (ha : s.pos ≤ 8000) : LCon P 112 [.ptr 0 0] [.box true (encRd t s)] (.str (iText t s).1) [.box true (encRd t (iText t s).2)] := by
  refine LCon.ofS (n := 32) (rs := [.tmp 2]) (Is.fn Try.func112) rfl (Is.call Try.call112) Try.results112 Try.ntmps112 (SW.seq (CW.sound ?_))
  obtain ⟨a, bad⟩ := s
  simp only at ha
  simp (maxSteps := 4000000) only [method_specs_simp, seval, encRd]
  refine SW.seq (CW.sound ?_)
  simp (maxSteps := 4000000) only [method_specs_simp, seval, encRd]
  refine ⟨by kernel_rfl, ?_⟩
  refine clY.con (c152 t a ht ha) (by simp only [method_specs_simp]) ?_
  have hb := getT_b t a
  unfold iText
  simp only
  generalize getT t a = g at *
  obtain ⟨n, p, c⟩ := g
  simp only at hb
  have hp : (p.toNat : Int) = p := Int.toNat_of_nonneg hb.1
  simp (maxSteps := 4000000) only [method_specs_simp, seval, encGT]
  cases bad with
  | true =>
    refine SW.seq (SW.drawnS [1, 8, 9, 10, 11, 12] 15 [.box true [.str t, .int .i64 p, .bool true], .box true [.str n, .int .i64 p, .int .i64 c]] ?T mixed (by kernel_rfl) (by kernel_rfl) rfl ?h0 ?hst ?h1 ?h2)
    case h0 =>
      simp only [List.take_succ_cons, List.take_zero]
      show RQi P _ _ _ _ _
      simp (maxSteps := 4000000) only [method_specs_simp, seval]
      rfl
    case hst => simp (maxSteps := 4000000) only [method_specs_simp, seval]
    case h1 =>
      simp only [List.take_succ_cons, List.take_zero]
      show RQi P _ _ _ _ _
      simp (maxSteps := 4000000) only [method_specs_simp, seval]
    case h2 =>
      simp only [List.drop_succ_cons, List.drop_zero]
      show RSi P _ _ _ _
      simp (maxSteps := 4000000) only [method_specs_simp, seval]
      refine CW.sound ?_
      simp (maxSteps := 4000000) only [method_specs_simp, seval]
      refine LResY.mk [0] ?_
      simp only [mvcgen_simp, method_specs_simp, seval, encRd, hp, Bool.true_or, Bool.false_or]
  | false =>
    refine SW.seq (SW.drawnS [1, 8, 9, 10, 11, 12] 15 [.box true [.str t, .int .i64 p, .bool false], .box true [.str n, .int .i64 p, .int .i64 c]] ?U mixed (by kernel_rfl) (by kernel_rfl) rfl ?h0 ?hst ?h1 ?h2)
    case h0 =>
      simp only [List.take_succ_cons, List.take_zero]
      show RQi P _ _ _ _ _
      simp (maxSteps := 4000000) only [method_specs_simp, seval]
      rfl
    case hst => simp (maxSteps := 4000000) only [method_specs_simp, seval]
    case h1 =>
      simp only [List.take_succ_cons, List.take_zero]
      show RQi P _ _ _ _ _
      simp (maxSteps := 4000000) only [method_specs_simp, seval]
    case h2 =>
      simp only [List.drop_succ_cons, List.drop_zero]
      show RSi P _ _ _ _
      simp (maxSteps := 4000000) only [method_specs_simp, seval]
      refine CW.sound ?_
      simp (maxSteps := 4000000) only [method_specs_simp, seval]
      refine LResY.mk [0] ?_
      simp only [mvcgen_simp, method_specs_simp, seval, encRd, hp, Bool.true_or, Bool.false_or]
end
end Go.Proofs.Ytkdaijcdddomjaa
