/- Entries in order: comparisons and the place of an entry. No conditions but lengths. -/
import Derived.Test.YtkcllejnmpnjfaaS2
namespace Go.Proofs.Ytkcllejnmpnjfaa
open Go.Pm
set_option maxRecDepth 10000
set_option linter.unusedSimpArgs false
set_option linter.unusedVariables false
def cmpI (a b : Int) : Int := if a < b then -1 else if a > b then 1 else 0
/-- The first of two numbers that is not 0. -/
def orI (a b : Int) : Int := if a ≠ 0 then a else b
def ordE (x y : Ent) : Int := orI (cmpI x.kind y.kind) (cmpI x.key y.key)
section
variable {P : Program} [Is P]
theorem c178 (a : Int) : Con P 240 [.int .i64 a] (.bool false) := by
  refine Con.of (n := 6) (rs := [.tmp 2]) (Is.fn Try.func240) rfl (Is.call Try.call240) Try.results240 Try.ntmps240 trivial ?_
  have e5 : (a != a) = false := by simp
  simp (maxSteps := 4000000) only [method_specs_simp, seval, e5]
theorem c172 (a b : Int) : Con P 202 [.int .i64 a, .int .i64 b] (.int .i64 (cmpI a b)) := by
  refine Con.of (n := 20) (rs := [.tmp 4]) (Is.fn Try.func202) rfl (Is.call Try.call202) Try.results202 Try.ntmps202 trivial ?_
  simp (maxSteps := 4000000) only [method_specs_simp, seval]
  refine clY.con (c178 a) (by simp only [method_specs_simp]) ?_
  simp (maxSteps := 4000000) only [method_specs_simp, seval]
  refine clY.con (c178 b) (by simp only [method_specs_simp]) ?_
  simp (maxSteps := 4000000) only [method_specs_simp, seval]
  unfold cmpI
  refine gB_split (fun h => ?_) (fun h => ?_)
  · simp only [decide_eq_true_eq] at h
    rw [if_pos h]
  · simp only [decide_eq_false_iff_not, Bool.not_true] at h
    rw [if_neg h]
    refine gB_split (fun h => ?_) (fun h => ?_)
    · simp only [decide_eq_true_eq] at h
      rw [if_pos h]
    · simp only [decide_eq_false_iff_not, Bool.not_true] at h
      rw [if_neg h]
theorem c171 (a b : Int) : Con P 254 [.sl 1 [[.int .i64 a], [.int .i64 b]]] (.int .i64 (orI a b)) := by
  refine Con.of (n := 18) (rs := [.tmp 2]) (Is.fn Try.func254) rfl (Is.call Try.call254) Try.results254 Try.ntmps254 trivial ?_
  simp (maxSteps := 4000000) only [method_specs_simp, seval]
  refine SW.while (A := Nat) (fun i => ⟨pad 18 [.sl 1 [[.int .i64 a], [.int .i64 b]], .junk, .int .i64 0, .int .i64 0, .junk, .junk, .sl 1 [[.int .i64 a], [.int .i64 b]], .int .i64 2, .int .i64 i], [], []⟩) (fun i => 2 - i) (fun i => i ≤ 2 ∧ (1 ≤ i → a = 0) ∧ (2 ≤ i → b = 0)) 0 [] ⟨by omega, by omega, by omega⟩ ?_ ?_
  · simp only [mvcgen_simp, method_specs_simp, seval]
  · rintro i ⟨hi, h1, h2⟩
    refine CW.sound ?_
    have e5 : ∀ a : Int, (a != a) = false := fun a => by simp
    match i, hi with
    | 0, _ =>
      simp (maxSteps := 4000000) only [method_specs_simp, seval]
      refine gB_split (fun h => ?_) (fun h => ?_)
      · simp only [bne_iff_ne] at h
        unfold orI
        rw [if_pos h]
      · simp only [Bool.not_true, bne_eq_false_iff_eq] at h
        refine Again.mk 1 [] ⟨by omega, fun _ => h, by omega⟩ (by omega) ?_
        simp only [mvcgen_simp, method_specs_simp, seval]
        rfl
    | 1, _ =>
      simp (maxSteps := 4000000) only [method_specs_simp, seval]
      have ha := h1 (by omega)
      refine gB_split (fun h => ?_) (fun h => ?_)
      · unfold orI
        rw [if_neg (by simp [ha])]
      · simp only [Bool.not_true, bne_eq_false_iff_eq] at h
        refine Again.mk 2 [] ⟨by omega, fun _ => ha, fun _ => h⟩ (by omega) ?_
        simp only [mvcgen_simp, method_specs_simp, seval]
        rfl
    | 2, _ =>
      simp (maxSteps := 4000000) only [method_specs_simp, seval]
      have ha := h1 (by omega)
      have hb := h2 (by omega)
      unfold orI
      rw [if_neg (by simp [ha]), hb]
theorem c159 (x y : Ent) : Con P 227 [.agg (encEnt x), .agg (encEnt y)] (.int .i64 (ordE x y)) := by
  refine Con.of (n := 17) (rs := [.tmp 4]) (Is.fn Try.func227) rfl (Is.call Try.call227) Try.results227 Try.ntmps227 trivial ?_
  simp (maxSteps := 4000000) only [method_specs_simp, seval, encEnt]
  refine ⟨by kernel_rfl, ?_⟩
  refine clY.con (c172 _ _) (by simp only [method_specs_simp]) ?_
  simp (maxSteps := 4000000) only [method_specs_simp, seval]
  refine clY.con (c172 _ _) (by simp only [method_specs_simp]) ?_
  simp (maxSteps := 4000000) only [method_specs_simp, seval]
  refine clY.conF (c171 (cmpI x.kind y.kind) (cmpI x.key y.key)) (by simp only [method_specs_simp]) ⟨⟨⟨trivial, trivial⟩, ⟨trivial, trivial⟩, trivial⟩, trivial⟩ trivial ?_
  simp (maxSteps := 4000000) only [method_specs_simp, seval, ordE]
def ordF : V := .fn 227 [] []
/-- Where an entry is, or would be, by halving. -/
def bsI (xs : List Ent) (x : Ent) (i j : Nat) : Nat :=
  if h : i < j then match xs[(i + j) / 2]? with
    | some y => if ordE y x < 0 then bsI xs x ((i + j) / 2 + 1) j else bsI xs x i ((i + j) / 2)
    | none => i
  else i
termination_by j - i
decreasing_by all_goals omega
def isAt (xs : List Ent) (x : Ent) (i : Nat) : Bool := match xs[i]? with
  | some y => ordE y x == 0
  | none => false
theorem c168 (xs : List Ent) (x : Ent) (hx : xs.length < 2 ^ 43) : Con P 248 [.sl 3 (xs.map encEnt), .agg (encEnt x), .fn 227 [] []] (.tup [.int .i64 (bsI xs x 0 xs.length), .bool (isAt xs x (bsI xs x 0 xs.length))]) := by
  refine Con.of (n := 49) (rs := [.tmp 6, .tmp 7]) (Is.fn Try.func248) rfl (Is.call Try.call248) Try.results248 Try.ntmps248 (by simp only [method_specs_simp]) ?_
  simp (maxSteps := 4000000) only [method_specs_simp, seval, encEnt]
  have hfold : [V.int .i64 x.kind, V.int .i64 x.key, V.int .i64 x.id] = encEnt x := rfl
  rw [hfold]
  refine SW.while (A := Nat × Nat) (fun a => ⟨pad 49 [.sl 3 (xs.map encEnt), .agg (encEnt x), .fn 227 [] [], .junk, .ptr 0 0, .junk, .int .i64 0, .bool false, .int .i64 xs.length, .int .i64 a.1, .int .i64 a.2], [.box true (encEnt x)], []⟩)
    (fun a => a.2 - a.1) (fun a => a.1 ≤ a.2 ∧ a.2 ≤ xs.length ∧ bsI xs x 0 xs.length = bsI xs x a.1 a.2) (0, xs.length) [0] ⟨Nat.zero_le _, Nat.le_refl _, rfl⟩ ?_ ?_
  · simp only [mvcgen_simp, method_specs_simp, seval, encEnt]
  · rintro ⟨i, j⟩ ⟨hij, hj, hr⟩
    simp only at hij hj hr
    rw [hr]
    refine CW.sound ?_
    have e1 : IntKind.i64.wrap ((i : Int) + j) = (i : Int) + j := wrap_id (by omega) (by omega)
    have e2 : IntKind.u64.wrap ((i : Int) + j) = (i : Int) + j := by simp [IntKind.wrap, IntKind.bits, IntKind.signed]; omega
    have e3 : ((i : Int) + j).fdiv (2 ^ min 1 IntKind.u64.bits) = (((i + j) / 2 : Nat) : Int) := by
      simp only [IntKind.bits]
      rw [Int.fdiv_eq_ediv_of_nonneg _ (by decide)]
      show ((i : Int) + j) / 2 = _
      omega
    have e4 : IntKind.i64.wrap (((i + j) / 2 : Nat) : Int) = (((i + j) / 2 : Nat) : Int) := wrap_id (by omega) (by omega)
    simp (maxSteps := 4000000) only [method_specs_simp, seval, encEnt, e1, e2, e3, e4]
    refine gB_split (fun h => ?_) (fun h => ?_)
    · simp only [decide_eq_true_eq, Int.ofNat_lt] at h
      have hh : (i + j) / 2 < xs.length := by omega
      obtain ⟨y, hy⟩ : ∃ y, xs[(i + j) / 2]? = some y := ⟨_, List.getElem?_eq_getElem hh⟩
      simp (maxSteps := 4000000) only [method_specs_simp, seval, hy]
      refine ⟨by kernel_rfl, by omega, by omega, by simp [encEnt], ?_⟩
      have ht : List.take 3 (encEnt y) = encEnt y := rfl
      rw [ht, hfold]
      refine clY.con (c159 y x) (by simp only [method_specs_simp, encEnt]) ?_
      simp (maxSteps := 4000000) only [method_specs_simp, seval]
      have e5 : IntKind.i64.wrap ((((i + j) / 2 : Nat) : Int) + 1) = (((i + j) / 2 + 1 : Nat) : Int) := by rw [wrap_id (by omega) (by omega)]; omega
      have hb : bsI xs x i j = if ordE y x < 0 then bsI xs x ((i + j) / 2 + 1) j else bsI xs x i ((i + j) / 2) := by
        rw [bsI, dif_pos h, hy]
      refine gB_split (fun h2 => ?_) (fun h2 => ?_)
      · simp only [decide_eq_true_eq] at h2
        rw [if_pos h2] at hb
        rw [e5]
        refine Again.mk ((i + j) / 2 + 1, j) [0] ⟨by simp only; omega, hj, hb⟩ (by simp only; omega) ?_
        simp only [mvcgen_simp, method_specs_simp, seval, encEnt]
      · simp only [decide_eq_false_iff_not, Bool.not_true] at h2
        rw [if_neg h2] at hb
        refine Again.mk (i, (i + j) / 2) [0] ⟨by simp only; omega, by simp only; omega, hb⟩ (by simp only; omega) ?_
        simp only [mvcgen_simp, method_specs_simp, seval, encEnt]
    · simp only [decide_eq_false_iff_not, Bool.not_true, Int.ofNat_lt] at h
      have hb : bsI xs x i j = i := by rw [bsI, dif_neg h]
      rw [hb]
      refine ⟨by kernel_rfl, ?_⟩
      refine gB_split (fun h2 => ?_) (fun h2 => ?_)
      · simp only [decide_eq_true_eq, Int.ofNat_lt] at h2
        obtain ⟨y, hy⟩ : ∃ y, xs[i]? = some y := ⟨_, List.getElem?_eq_getElem h2⟩
        simp (maxSteps := 4000000) only [method_specs_simp, seval, hy]
        refine ⟨by omega, by omega, by simp [encEnt], ?_⟩
        have ht : List.take 3 (encEnt y) = encEnt y := rfl
        rw [ht, hfold]
        refine clY.con (c159 y x) (by simp only [method_specs_simp, encEnt]) ?_
        simp (maxSteps := 4000000) only [method_specs_simp, seval]
        simp [isAt, hy]
      · simp only [decide_eq_false_iff_not, Bool.not_true, Int.ofNat_lt] at h2
        have hy : xs[i]? = none := List.getElem?_eq_none (by omega)
        simp [isAt, hy]
theorem c156 (xs : List Ent) (x : Ent) (hx : xs.length < 2 ^ 43) : Con P 222 [.sl 3 (xs.map encEnt), .agg (encEnt x)] (.tup [.int .i64 (bsI xs x 0 xs.length), .bool (isAt xs x (bsI xs x 0 xs.length))]) := by
  refine Con.of (n := 11) (rs := [.tmp 4, .tmp 5]) (Is.fn Try.func222) rfl (Is.call Try.call222) Try.results222 Try.ntmps222 (by simp only [method_specs_simp]) ?_
  simp (maxSteps := 4000000) only [method_specs_simp, seval, encEnt]
  have hfold : [V.int .i64 x.kind, V.int .i64 x.key, V.int .i64 x.id] = encEnt x := rfl
  rw [hfold]
  refine clY.con (c168 xs x hx) (by simp only [method_specs_simp, encEnt]) ?_
  simp (maxSteps := 4000000) only [method_specs_simp, seval]
end
end Go.Proofs.Ytkcllejnmpnjfaa
