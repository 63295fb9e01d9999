/- StatePut of the reference and of the program, and the law FnExactStatePut. No conditions but lengths. -/
import Derived.Test.YtkdaijcdddomjaaS7
namespace Go.Proofs.Ytkdaijcdddomjaa
open Go.Pm
set_option maxRecDepth 10000
set_option linter.unusedSimpArgs false
set_option linter.unusedVariables false
theorem okRow_one (ok : Ent → Bool) (x : Ent) : okRow ok [x] = ok x := by simp [okRow, okGo, okAt]
theorem entI_id {x : Ent} (h : entI 1 x = true) : x.id ≠ 0 := by
  unfold entI isB at h
  simp only [Bool.and_eq_true, decide_eq_true_eq] at h
  omega
section
variable {P : Program} [Is P]
theorem c52 (xs : List Ent) (x : Ent) (hx : xs.length ≤ 400) (h1 : okRow (entI 1) xs = true) (h2 : entI 1 x = true) : Con P 52 [.sl 3 (xs.map encEnt), .agg (encEnt x)] (.agg [.sl 3 ((putI xs x).map encEnt), .int .i64 0]) := by
  have hp : putL (without xs x) x = putI xs x := by
    rw [(put_same xs x (okRow_sorted h1)).1, putS, if_neg (entI_id h2)]
  refine Con.of (n := 22) (rs := [.cell 4 76]) (Is.fn Try.func52) rfl (Is.call Try.call52) Try.results52 Try.ntmps52 (by simp only [method_specs_simp]) ?_
  have hfold : [V.int .i64 x.kind, V.int .i64 x.key, V.int .i64 x.id] = encEnt x := rfl
  have hb : decide ((xs.length : Int) > 400) = false := by simp; omega
  have hd : decide (xs.length ≤ 400) = true := by simp; omega
  simp (maxSteps := 4000000) only [method_specs_simp, seval, encEnt, hb]
  refine clY.con (c115 xs (by omega)) (by simp only [method_specs_simp]) ?_
  rw [hd, okRow_f, h1]
  simp (maxSteps := 4000000) only [method_specs_simp, seval, encEnt]
  rw [hfold]
  refine clY.con (c116 x false) (by simp only [method_specs_simp, encEnt]) ?_
  rw [entS_f, h2]
  simp (maxSteps := 4000000) only [method_specs_simp, seval, encEnt]
  rw [hfold]
  refine clY.con (c117 xs x (by omega)) (by simp only [method_specs_simp, encEnt]) ?_
  simp (maxSteps := 4000000) only [method_specs_simp, seval]
  rw [hp]
theorem c52e (xs : List Ent) (x : Ent) (hx : xs.length ≤ 400) (h1 : (okRow (entI 1) xs && entI 1 x) = false) : Con P 52 [.sl 3 (xs.map encEnt), .agg (encEnt x)] (.agg [.nil, .int .i64 1]) := by
  refine Con.of (n := 22) (rs := [.cell 4 76]) (Is.fn Try.func52) rfl (Is.call Try.call52) Try.results52 Try.ntmps52 (by simp only [method_specs_simp]) ?_
  have hfold : [V.int .i64 x.kind, V.int .i64 x.key, V.int .i64 x.id] = encEnt x := rfl
  have hb : decide ((xs.length : Int) > 400) = false := by simp; omega
  have hd : decide (xs.length ≤ 400) = true := by simp; omega
  simp (maxSteps := 4000000) only [method_specs_simp, seval, encEnt, hb]
  refine clY.con (c115 xs (by omega)) (by simp only [method_specs_simp]) ?_
  rw [hd, okRow_f]
  simp (maxSteps := 4000000) only [method_specs_simp, seval, encEnt]
  rw [hfold]
  cases h3 : okRow (entI 1) xs with
  | false => simp (maxSteps := 4000000) only [method_specs_simp, seval]
  | true =>
    rw [h3, Bool.true_and] at h1
    simp (maxSteps := 4000000) only [method_specs_simp, seval]
    refine clY.con (c116 x false) (by simp only [method_specs_simp, encEnt]) ?_
    rw [entS_f, h1]
    simp (maxSteps := 4000000) only [method_specs_simp, seval, encEnt]
theorem c52s (xs : List Ent) (x : Ent) (hx : ¬ xs.length ≤ 400) : Con P 52 [.sl 3 (xs.map encEnt), .agg (encEnt x)] (.agg [.nil, .int .i64 2]) := by
  refine Con.of (n := 22) (rs := [.cell 4 76]) (Is.fn Try.func52) rfl (Is.call Try.call52) Try.results52 Try.ntmps52 (by simp only [method_specs_simp]) ?_
  have hb : decide ((xs.length : Int) > 400) = true := by simp; omega
  simp (maxSteps := 4000000) only [method_specs_simp, seval, encEnt, hb]
theorem c55s (xs : List Ent) (x : Ent) (hx : ¬ xs.length ≤ 400) : Con P 55 [.sl 3 (xs.map encEnt), .agg (encEnt x)] (.agg [.nil, .int .i64 2]) := by
  refine Con.of (n := 25) (rs := [.cell 4 76]) (Is.fn Try.func55) rfl (Is.call Try.call55) Try.results55 Try.ntmps55 (by simp only [method_specs_simp]) ?_
  have hb : decide ((xs.length : Int) > 400) = true := by simp; omega
  simp (maxSteps := 4000000) only [method_specs_simp, seval, encEnt, hb]
theorem c55e (xs : List Ent) (x : Ent) (hx : xs.length ≤ 400) (h1 : (okRow (entI 1) xs && entI 1 x) = false) : Con P 55 [.sl 3 (xs.map encEnt), .agg (encEnt x)] (.agg [.nil, .int .i64 1]) := by
  refine Con.of (n := 25) (rs := [.cell 4 76]) (Is.fn Try.func55) rfl (Is.call Try.call55) Try.results55 Try.ntmps55 (by simp only [method_specs_simp]) ?_
  have hb : decide ((xs.length : Int) > 400) = false := by simp; omega
  have hd : decide (xs.length ≤ 400) = true := by simp; omega
  have hcx : [V.int .i64 x.kind, V.int .i64 x.key, V.int .i64 x.id] = encEnt x := rfl
  simp (maxSteps := 4000000) only [method_specs_simp, seval, encEnt, hb]
  refine clY.con (c118 xs (by omega)) (by simp only [method_specs_simp]) ?_
  rw [hd, Bool.and_true]
  simp (maxSteps := 4000000) only [method_specs_simp, seval, encEnt]
  cases h3 : okRow (entI 1) xs with
  | false => simp (maxSteps := 4000000) only [method_specs_simp, seval]
  | true =>
    rw [h3, Bool.true_and] at h1
    simp (maxSteps := 4000000) only [method_specs_simp, seval]
    have h118 := c118 (P := P) [x] (by simp)
    rw [okRow_one, h1] at h118
    refine clY.conF h118 (by simp only [method_specs_simp, encEnt]) ⟨of_eq_true (encEnt_refs _ [x]), trivial⟩ trivial ?_
    simp (maxSteps := 4000000) only [method_specs_simp, seval, encEnt, Bool.false_and]
theorem n55 (xs : List Ent) (x : Ent) (hx : xs.length ≤ 400) (h1 : okRow (entI 1) xs = true) (h2 : entI 1 x = true) : NCon P 55 [.sl 3 (xs.map encEnt), .agg (encEnt x)] (.agg [.ar 0 0 (putI xs x).length, .int .i64 0]) [.arr true 3 ((putI xs x).map encEnt)] := by
  refine LCon.new (LCon.of (n := 25) (rs := [.cell 4 76]) (Is.fn Try.func55) rfl (Is.call Try.call55) Try.results55 Try.ntmps55 ?_) (pure1 (pure_ents _ _))
  have hb : decide ((xs.length : Int) > 400) = false := by simp; omega
  have hd : decide (xs.length ≤ 400) = true := by simp; omega
  have hcx : [V.int .i64 x.kind, V.int .i64 x.key, V.int .i64 x.id] = encEnt x := rfl
  simp (maxSteps := 4000000) only [method_specs_simp, seval, encEnt, hb]
  refine clY.con (c118 xs (by omega)) (by simp only [method_specs_simp]) ?_
  rw [hd, Bool.and_true, h1]
  simp (maxSteps := 4000000) only [method_specs_simp, seval, encEnt]
  have h118 := c118 (P := P) [x] (by simp)
  rw [okRow_one, h2] at h118
  refine clY.conF h118 (by simp only [method_specs_simp, encEnt]) ⟨of_eq_true (encEnt_refs _ [x]), trivial⟩ trivial ?_
  simp (maxSteps := 4000000) only [method_specs_simp, seval, encEnt, Bool.true_and, List.length_singleton]
  rw [hcx]
  refine clY.new (n119 xs x (by omega)) (by simp only [method_specs_simp, encEnt]) ?_
  simp (maxSteps := 4000000) only [method_specs_simp, seval]
  refine LResY.mk [3] ?_
  simp only [mvcgen_simp, method_specs_simp, seval]
end
end Go.Proofs.Ytkdaijcdddomjaa
