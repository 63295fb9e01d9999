/- Putting an entry into a state, of the program. No conditions but lengths. -/
import Derived.Test.YtkcllejnmpnjfaaS3
namespace Go.Proofs.Ytkcllejnmpnjfaa
open Go.Pm
set_option maxRecDepth 10000
set_option linter.unusedSimpArgs false
set_option linter.unusedVariables false
theorem bsI_b (xs : List Ent) (x : Ent) : ∀ (n i j : Nat), j - i ≤ n → i ≤ j → i ≤ bsI xs x i j ∧ bsI xs x i j ≤ j := by
  intro n
  induction n with
  | zero =>
    intro i j h hij
    rw [bsI, dif_neg (by omega)]
    omega
  | succ n ih =>
    intro i j h hij
    rw [bsI]
    split
    · rename_i hlt
      split
      · split
        · have := ih ((i + j) / 2 + 1) j (by omega) (by omega)
          omega
        · have := ih i ((i + j) / 2) (by omega) (by omega)
          omega
      · omega
    · omega
theorem bsI_le (xs : List Ent) (x : Ent) : bsI xs x 0 xs.length ≤ xs.length := (bsI_b xs x _ 0 xs.length (Nat.le_refl _) (Nat.zero_le _)).2
theorem isAt_lt {xs : List Ent} {x : Ent} {i : Nat} (h : isAt xs x i = true) : i < xs.length := by
  unfold isAt at h
  split at h
  · rename_i y hy; exact (List.getElem?_eq_some_iff.1 hy).1
  · cases h
def putI (xs : List Ent) (x : Ent) : List Ent :=
  if x.id = 0 then (if isAt xs x (bsI xs x 0 xs.length) = true then xs.take (bsI xs x 0 xs.length) ++ xs.drop (bsI xs x 0 xs.length + 1) else xs)
  else if isAt xs x (bsI xs x 0 xs.length) = true then xs.set (bsI xs x 0 xs.length) x else xs.take (bsI xs x 0 xs.length) ++ x :: xs.drop (bsI xs x 0 xs.length)
section
variable {P : Program} [Is P]
theorem n119 (xs : List Ent) (x : Ent) (hx : (xs.length + 1) * 24 ≤ 2 ^ 39) : NCon P 161 [.sl 3 (xs.map encEnt), .agg (encEnt x)] (.ar 0 0 (putI xs x).length) [.arr true 3 ((putI xs x).map encEnt)] := by
  refine LCon.new (LCon.of (n := 45) (rs := [.tmp 4]) (Is.fn Try.func161) rfl (Is.call Try.call161) Try.results161 Try.ntmps161 ?_) (pure1 (pure_ents _ _))
  simp (maxSteps := 4000000) only [method_specs_simp, seval, encEnt]
  have hfold : [V.int .i64 x.kind, V.int .i64 x.key, V.int .i64 x.id] = encEnt x := rfl
  refine clY.new (n131 xs (by omega)) (by simp only [method_specs_simp]) ?_
  simp (maxSteps := 4000000) only [method_specs_simp, seval]
  rw [hfold]
  refine clY.conF (c156 xs x (by omega)) (by simp only [method_specs_simp, encEnt]) ⟨of_eq_true (encEnt_refs _ xs), of_eq_true (encEnt_refs1 _ x), trivial⟩ ⟨trivial, trivial, trivial⟩ ?_
  have hk := bsI_le xs x
  have hlt := @isAt_lt xs x (bsI xs x 0 xs.length)
  unfold putI
  generalize bsI xs x 0 xs.length = k at *
  simp (maxSteps := 4000000) only [method_specs_simp, seval, encEnt]
  rw [hfold]
  have ew : IntKind.i64.wrap ((k : Int) + 1) = ((k + 1 : Nat) : Int) := by rw [wrap_id (by omega) (by omega)]; omega
  rw [ew]
  by_cases hid : x.id = 0
  · have d1 : (x.id == 0) = true := by simp [hid]
    rw [if_pos hid]
    simp only [d1, method_specs_simp]
    cases his : isAt xs x k with
    | true =>
      have hkl := hlt his
      rw [if_pos rfl]
      simp only [method_specs_simp]
      refine clY.live [1] [] (n157 xs k hkl (by omega)) ?_ (by simp) ?_
      · simp only [mvcgen_simp, method_specs_simp, seval]
      simp (maxSteps := 4000000) only [method_specs_simp, seval]
      refine LResY.mk [2] ?_
      simp only [mvcgen_simp, method_specs_simp, seval]
      simp only [List.length_take, List.length_drop]
      omega
    | false =>
      rw [if_neg (by simp)]
      simp only [method_specs_simp]
      refine LResY.mk [1] ?_
      simp only [mvcgen_simp, method_specs_simp, seval]
  · have d1 : (x.id == 0) = false := by simp [hid]
    rw [if_neg hid]
    simp only [d1, method_specs_simp]
    cases his : isAt xs x k with
    | true =>
      have hkl := hlt his
      rw [if_pos rfl]
      simp only [method_specs_simp]
      refine ⟨by omega, by omega, hkl, ?_⟩
      have e : (List.map encEnt xs).getD k [] = encEnt xs[k] := by
        rw [List.getD_eq_getElem?_getD, List.getElem?_map, List.getElem?_eq_getElem hkl]; rfl
      have e2 : V.int .i64 x.kind :: V.int .i64 x.key :: V.int .i64 x.id :: List.drop 3 (encEnt xs[k]) = encEnt x := by simp [encEnt]
      rw [e, e2, ← List.map_set]
      refine LResY.mk [1] ?_
      simp only [mvcgen_simp, method_specs_simp, seval]
      exact List.length_set
    | false =>
      rw [if_neg (by simp)]
      simp only [method_specs_simp]
      refine clY.live [1, 2] [] (n158 xs x k hk (by omega)) ?_ (by simp) ?_
      · simp only [mvcgen_simp, method_specs_simp, seval]
        exact ⟨of_eq_true (encEnt_refs1 _ x), encEnt_rens1 _ x⟩
      simp (maxSteps := 4000000) only [method_specs_simp, seval]
      refine LResY.mk [3] ?_
      simp only [mvcgen_simp, method_specs_simp, seval]
      simp only [List.length_take, List.length_drop]
      omega
end
end Go.Proofs.Ytkcllejnmpnjfaa
