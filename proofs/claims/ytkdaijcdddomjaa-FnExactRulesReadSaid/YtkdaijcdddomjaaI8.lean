/- InboxRead of the reference and of the program. No conditions but lengths. -/
import Derived.Test.YtkdaijcdddomjaaI7
namespace Go.Proofs.Ytkdaijcdddomjaa
open Go.Pm
set_option maxRecDepth 10000
set_option linter.unusedSimpArgs false
def lastNum (xs : List Note) (i : Nat) : Int := if i = 0 then 0 else match xs[i - 1]? with
  | some x => x.num
  | none => 0
def rdLen (xs : List Note) (lim : Int) : Nat := min xs.length lim.toNat
theorem lastNum_0 {xs : List Note} : lastNum xs 0 = 0 := by simp [lastNum]
theorem lastNum_s {xs : List Note} {i : Nat} {x : Note} (h : xs[i]? = some x) : lastNum xs (i + 1) = x.num := by simp [lastNum, h]
theorem take_s {xs : List Note} {i : Nat} {x : Note} (h : xs[i]? = some x) : xs.take (i + 1) = xs.take i ++ [x] := by
  rw [List.take_add_one, h]; rfl
section
variable {P : Program} [Is P]
theorem c94 (n : Int) (xs : List Note) (hx : xs.length * 32 ≤ 2 ^ 47) : Con P 94 [.agg [.int .i64 n, .sl 3 (xs.map encNote)]] (.agg [.int .i64 n, .sl 3 (xs.map encNote)]) := by
  refine Con.ofS (n := 10) (rs := [.cell 2 29]) (Is.fn Try.func94) rfl (Is.call Try.call94) Try.results94 Try.ntmps94 (by simp only [method_specs_simp]) ?_
  refine SW.seq (CW.sound ?_)
  simp (maxSteps := 4000000) only [method_specs_simp, seval]
  refine SW.seq (SW.drawn 7 mixed (by kernel_rfl) ?_)
  show RQi P _ _ _ _ _
  simp (maxSteps := 4000000) only [method_specs_simp, seval]
  refine ⟨by omega, by omega, ?_⟩
  refine CW.sound ?_
  simp (maxSteps := 4000000) only [method_specs_simp, seval]
  rw [List.take_of_length_le (by simp)]
  simp (maxSteps := 4000000) only [method_specs_simp, seval]
theorem c27 (n lim : Int) (xs : List Note) (hx : xs.length * 32 ≤ 2 ^ 40) (ok : specOk n xs = true) (ol : isB lim 1 30 = true) : Con P 27 [.agg [.int .i64 n, .sl 3 (xs.map encNote)], .int .i64 lim]
    (.agg [.int .i64 n, .sl 3 (xs.map encNote), .sl 3 ((xs.take (rdLen xs lim)).map encNote), .int .i64 (lastNum xs (rdLen xs lim)), .int .i64 0]) := by
  have hl : 1 ≤ lim ∧ lim ≤ 30 := by simpa [isB] using ol
  refine Con.of (n := 49) (rs := [.cell 4 42]) (Is.fn Try.func27) rfl (Is.call Try.call27) Try.results27 Try.ntmps27 (by simp only [method_specs_simp]) ?_
  simp (maxSteps := 4000000) only [method_specs_simp, seval]
  refine clY.con (c16 _ _ (by omega)) (by simp only [method_specs_simp]) ?_
  rw [ok]
  simp (maxSteps := 4000000) only [method_specs_simp, seval]
  refine clY.con (c75 _ _ _) (by simp only [method_specs_simp]) ?_
  rw [ol]
  simp (maxSteps := 4000000) only [method_specs_simp, seval]
  refine clY.con (c94 _ _ (by omega)) (by simp only [method_specs_simp]) ?_
  simp (maxSteps := 4000000) only [method_specs_simp, seval]
  refine SW.nilcell 2 2 3 rfl rfl (by decide) ?_
  refine SW.while (A := Nat) (fun i => ⟨pad 49 [.agg [.int .i64 n, .sl 3 (xs.map encNote)], .int .i64 lim, .ptr 0 0, .junk, .ptr 1 0, .ptr 2 0, .int .i64 i], [.box true [.int .i64 n, .sl 3 (xs.map encNote)], .box true [.int .i64 0, .nil, .nil, .int .i64 0, .int .i64 0], .box true [.int .i64 n, .sl 3 (xs.map encNote), .ar 3 0 i, .int .i64 (lastNum xs i), .int .i64 0], .arr true 3 ((xs.take i).map encNote)], []⟩)
    (fun i => xs.length - i) (fun i => i ≤ rdLen xs lim) 0 [0, 1, 2, 3] (Nat.zero_le _) ?_ ?_
  · simp only [mvcgen_simp, method_specs_simp, seval, lastNum_0]
  · intro i hi
    unfold rdLen at hi
    have hil : i ≤ xs.length := by omega
    have hll : (xs.take i).length = i := by simp; omega
    refine CW.sound ?_
    simp (maxSteps := 4000000) only [method_specs_simp, seval]
    refine gB_split (fun h => ?_) (fun h => ?_)
    · simp only [decide_eq_true_eq, Int.ofNat_lt] at h
      refine gB_split (fun h2 => ?_) (fun h2 => ?_)
      · simp only [decide_eq_true_eq] at h2
        have hxk : xs[i]? = some xs[i] := List.getElem?_eq_getElem h
        generalize hxx : xs[i] = x at hxk
        simp (maxSteps := 4000000) only [hxk, encNote, method_specs_simp, seval]
        refine ⟨by kernel_rfl, by omega, by omega, hll, by omega, by omega, by omega, by omega, ?_⟩
        rw [wrap_id (by omega) (by omega)]
        refine Again.mk (i + 1) [0, 1, 2, 5] (by unfold rdLen; omega) (Nat.sub_lt_sub_left h (Nat.lt_succ_self _)) ?_
        have e : List.map encNote (List.take i xs) ++ [[V.int IntKind.i64 x.num, V.int IntKind.i64 x.frm, V.str x.text]] = List.map encNote (List.take (i + 1) xs) := by rw [take_s hxk]; simp [encNote]
        rw [e]
        simp only [mvcgen_simp, method_specs_simp, seval, lastNum_s hxk]
      · simp only [decide_eq_false_iff_not, Bool.not_true] at h2
        have hr : rdLen xs lim = i := by unfold rdLen; omega
        rw [List.take_of_length_le (by simp; omega), hr]
        simp only [method_specs_simp]
    · simp only [decide_eq_false_iff_not, Bool.not_true, Int.ofNat_lt] at h
      have hr : rdLen xs lim = i := by unfold rdLen; omega
      rw [List.take_of_length_le (by simp; omega), hr]
      simp only [method_specs_simp]
end
end Go.Proofs.Ytkdaijcdddomjaa
