/- Whether entries are right, of the reference and of the program. No conditions but lengths. -/
import Derived.Test.YtkcllejnmpnjfaaS4
namespace Go.Proofs.Ytkcllejnmpnjfaa
open Go.Pm
set_option maxRecDepth 10000
set_option linter.unusedSimpArgs false
set_option linter.unusedVariables false
def lessE (x y : Ent) : Bool := decide (x.kind < y.kind) || ((x.kind == y.kind) && decide (x.key < y.key))
def entI (least : Int) (x : Ent) : Bool := isB x.kind 1 6 && (isB x.key 0 6 && isB x.id least 1000000)
def entS (gone : Bool) (x : Ent) : Bool := isB x.kind 1 6 && (isB x.key 0 6 && (isB x.id 1 1000000 || (gone && (x.id == 0))))
theorem entS_f (x : Ent) : entS false x = entI 1 x := by simp [entS, entI]
theorem entS_t (x : Ent) : entS true x = entI 0 x := by
  unfold entS entI
  congr 2
  simp only [isB, Bool.true_and]
  by_cases h : x.id = 0
  · simp [h]
  · have : (x.id == 0) = false := by simp [h]
    rw [this, Bool.or_false]
    congr 1
    rw [decide_eq_decide]
    omega
theorem ordE_lt (x y : Ent) : decide (ordE x y ≥ 0) = !lessE x y := by
  unfold ordE orI cmpI lessE
  by_cases h1 : x.kind < y.kind
  · simp [h1]
  · by_cases h2 : x.kind > y.kind
    · have h3 : ¬ (x.kind == y.kind) = true := by simp; omega
      simp [h1, h2, h3]
    · have h3 : x.kind = y.kind := by omega
      by_cases h4 : x.key < y.key
      · simp [h1, h2, h3, h4]
      · by_cases h5 : x.key > y.key
        · simp [h1, h2, h3, h4, h5]
        · simp [h1, h2, h3, h4, h5]
/-- From entry i on, entries are right. -/
def okAt (ok : Ent → Bool) (xs : List Ent) (i : Nat) (x : Ent) : Bool := ok x && (i == 0 || match xs[i - 1]? with
  | some p => lessE p x
  | none => true)
def okGo (ok : Ent → Bool) (xs : List Ent) : Nat → List Ent → Bool
  | _, [] => true
  | i, x :: l => okAt ok xs i x && okGo ok xs (i + 1) l
def okRow (ok : Ent → Bool) (xs : List Ent) : Bool := okGo ok xs 0 xs
section
variable {P : Program} [Is P]
theorem c153 (n : Int) : Con P 210 [.int .i64 n] (.bool (isB n 1 1000000)) := by
  refine Con.of (n := 5) (rs := [.tmp 2]) (Is.fn Try.func210) rfl (Is.call Try.call210) Try.results210 Try.ntmps210 trivial ?_
  simp (maxSteps := 4000000) only [method_specs_simp, seval]
  refine clY.con (c75 _ _ _) (by simp only [method_specs_simp]) ?_
  simp (maxSteps := 4000000) only [method_specs_simp, seval]
theorem c155 (x y : Ent) : Con P 229 [.agg (encEnt x), .agg (encEnt y)] (.bool (lessE x y)) := by
  refine Con.of (n := 24) (rs := [.tmp 4]) (Is.fn Try.func229) rfl (Is.call Try.call229) Try.results229 Try.ntmps229 trivial ?_
  simp (maxSteps := 4000000) only [method_specs_simp, seval, encEnt]
  unfold lessE
  cases decide (x.kind < y.kind) <;> cases x.kind == y.kind <;> simp only [method_specs_simp, Bool.true_or, Bool.false_or, Bool.true_and, Bool.false_and]
theorem c116 (x : Ent) (gone : Bool) : Con P 163 [.agg (encEnt x), .bool gone] (.bool (entS gone x)) := by
  refine Con.of (n := 26) (rs := [.tmp 4]) (Is.fn Try.func163) rfl (Is.call Try.call163) Try.results163 Try.ntmps163 trivial ?_
  simp (maxSteps := 4000000) only [method_specs_simp, seval, encEnt]
  unfold entS
  refine clY.con (c75 _ _ _) (by simp only [method_specs_simp]) ?_
  simp (maxSteps := 4000000) only [method_specs_simp, seval]
  cases isB x.kind 1 6 with
  | false => simp only [method_specs_simp, Bool.false_and]
  | true =>
    simp only [method_specs_simp, Bool.true_and]
    refine clY.con (c75 _ _ _) (by simp only [method_specs_simp]) ?_
    simp (maxSteps := 4000000) only [method_specs_simp, seval]
    cases isB x.key 0 6 with
    | false => simp only [method_specs_simp, Bool.false_and]
    | true =>
      simp only [method_specs_simp, Bool.true_and]
      refine clY.con (c153 _) (by simp only [method_specs_simp]) ?_
      simp (maxSteps := 4000000) only [method_specs_simp, seval]
      cases isB x.id 1 1000000 with
      | true => simp only [method_specs_simp, Bool.true_or]
      | false =>
        cases gone with
        | false => simp only [method_specs_simp, Bool.false_or, Bool.false_and]
        | true => simp only [method_specs_simp, Bool.false_or, Bool.true_and]
theorem c124 (xs : List Ent) (least : Int) (hx : xs.length < 2 ^ 62) : Con P 166 [.sl 3 (xs.map encEnt), .int .i64 least] (.bool (okRow (entI least) xs && decide (xs.length ≤ 400))) := by
  refine Con.of (n := 49) (rs := [.tmp 4]) (Is.fn Try.func166) rfl (Is.call Try.call166) Try.results166 Try.ntmps166 trivial ?_
  simp (maxSteps := 4000000) only [method_specs_simp, seval]
  refine SW.while (A := Nat) (fun i => ⟨pad 49 [.sl 3 (xs.map encEnt), .int .i64 least, .junk, .junk, .bool false, .junk, .junk, .sl 3 (xs.map encEnt), .int .i64 xs.length, .int .i64 i], [], []⟩) (fun i => xs.length - i)
    (fun i => i ≤ xs.length ∧ okRow (entI least) xs = okGo (entI least) xs i (xs.drop i)) 0 [] ⟨Nat.zero_le _, rfl⟩ ?_ ?_
  · simp only [mvcgen_simp, method_specs_simp, seval]
  · rintro i ⟨hi, hr⟩
    refine CW.sound ?_
    simp (maxSteps := 4000000) only [method_specs_simp, seval]
    refine gB_split (fun h => ?_) (fun h => ?_)
    · simp only [decide_eq_true_eq, Int.ofNat_lt] at h
      have hxi : xs[i]? = some xs[i] := List.getElem?_eq_getElem h
      generalize xs[i] = x at hxi
      rw [drop_cons hxi, okGo] at hr
      have hw : IntKind.i64.wrap ((i : Int) + 1) = (i : Int) + 1 := wrap_id (by omega) (by omega)
      simp (maxSteps := 4000000) only [hxi, method_specs_simp, seval, encEnt, hw]
      have hcx : ([V.int .i64 x.kind, V.int .i64 x.key, V.int .i64 x.id] : List V) = encEnt x := rfl
      have hok : okAt (entI least) xs i x = ((isB x.kind 1 6 && (isB x.key 0 6 && isB x.id least 1000000)) && (i == 0 || match xs[i - 1]? with
        | some p => lessE p x
        | none => true)) := rfl
      refine ⟨by omega, by omega, by kernel_rfl, ?_⟩
      refine clY.con (c78 _ _ _) (by simp only [method_specs_simp]) ?_
      simp (maxSteps := 4000000) only [method_specs_simp, seval]
      cases h1 : isB x.kind 1 6 with
      | false =>
        simp only [method_specs_simp]
        rw [hr, hok, h1]
        rfl
      | true =>
        simp only [method_specs_simp]
        refine clY.con (c78 _ _ _) (by simp only [method_specs_simp]) ?_
        simp (maxSteps := 4000000) only [method_specs_simp, seval]
        cases h2 : isB x.key 0 6 with
        | false =>
          simp only [method_specs_simp]
          rw [hr, hok, h1, h2]
          rfl
        | true =>
          simp only [method_specs_simp]
          refine clY.con (c78 _ _ _) (by simp only [method_specs_simp]) ?_
          simp (maxSteps := 4000000) only [method_specs_simp, seval]
          cases h3 : isB x.id least 1000000 with
          | false =>
            simp only [method_specs_simp]
            rw [hr, hok, h1, h2, h3]
            rfl
          | true =>
            simp only [method_specs_simp]
            rw [h1, h2, h3, Bool.true_and, Bool.true_and, Bool.true_and] at hok
            refine gB_split (fun h4 => ?_) (fun h4 => ?_)
            · simp only [decide_eq_true_eq] at h4
              have hw2 : IntKind.i64.wrap ((i : Int) - 1) = ((i - 1 : Nat) : Int) := by rw [wrap_id (by omega) (by omega)]; omega
              obtain ⟨p, hp⟩ : ∃ p, xs[i - 1]? = some p := ⟨xs[i - 1], List.getElem?_eq_getElem (by omega)⟩
              have hi0 : (i == 0) = false := by simp; omega
              rw [hi0, hp, Bool.false_or] at hok
              replace hok : okAt (entI least) xs i x = lessE p x := hok
              simp (maxSteps := 4000000) only [hp, hw2, method_specs_simp, seval]
              refine ⟨by omega, by omega, by simp [encEnt], ?_⟩
              have ht : List.take 3 (encEnt p) = encEnt p := rfl
              rw [ht, hcx]
              refine clY.con (c159 p x) (by simp only [method_specs_simp, encEnt]) ?_
              simp (maxSteps := 4000000) only [method_specs_simp, seval, ordE_lt]
              cases h5 : lessE p x with
              | false =>
                simp only [method_specs_simp, Bool.not_false]
                rw [hr, hok, h5]
                rfl
              | true =>
                simp only [method_specs_simp, Bool.not_true]
                refine Again.mk (i + 1) [] ⟨h, by rw [hr, hok, h5, Bool.true_and]⟩ (Nat.sub_lt_sub_left h (Nat.lt_succ_self _)) ?_
                simp only [mvcgen_simp, method_specs_simp, seval, hw]
            · simp only [decide_eq_false_iff_not, Bool.not_true] at h4
              have hi0 : (i == 0) = true := by simp; omega
              rw [hi0, Bool.true_or] at hok
              refine Again.mk (i + 1) [] ⟨h, by rw [hr, hok, Bool.true_and]⟩ (Nat.sub_lt_sub_left h (Nat.lt_succ_self _)) ?_
              simp only [mvcgen_simp, method_specs_simp, seval, hw]
    · simp only [decide_eq_false_iff_not, Bool.not_true, Int.ofNat_lt] at h
      rw [List.drop_eq_nil_of_le (by omega), okGo] at hr
      rw [hr, Bool.true_and, decide_eq_decide]
      omega
theorem c118 (xs : List Ent) (hx : xs.length < 2 ^ 62) : Con P 85 [.sl 3 (xs.map encEnt)] (.bool (okRow (entI 1) xs && decide (xs.length ≤ 400))) := by
  refine Con.of (n := 5) (rs := [.tmp 2]) (Is.fn Try.func85) rfl (Is.call Try.call85) Try.results85 Try.ntmps85 trivial ?_
  simp (maxSteps := 4000000) only [method_specs_simp, seval]
  refine clY.con (c124 xs 1 hx) (by simp only [method_specs_simp]) ?_
  simp (maxSteps := 4000000) only [method_specs_simp, seval]
theorem c122 (xs : List Ent) (gone : Bool) (hx : xs.length < 2 ^ 62) : Con P 168 [.sl 3 (xs.map encEnt), .bool gone] (.bool (decide (xs.length ≤ 400) && okRow (entS gone) xs)) := by
  refine Con.of (n := 39) (rs := [.tmp 4]) (Is.fn Try.func168) rfl (Is.call Try.call168) Try.results168 Try.ntmps168 trivial ?_
  simp (maxSteps := 4000000) only [method_specs_simp, seval]
  refine gB_split (fun h => ?_) (fun h => ?_)
  · simp only [decide_eq_true_eq] at h
    have : decide (xs.length ≤ 400) = false := by simp; omega
    rw [this, Bool.false_and]
  · simp only [decide_eq_false_iff_not, Bool.not_true] at h
    have : decide (xs.length ≤ 400) = true := by simp; omega
    rw [this, Bool.true_and]
    refine SW.while (A := Nat) (fun i => ⟨pad 39 [.sl 3 (xs.map encEnt), .bool gone, .junk, .junk, .bool false, .int .i64 i], [], []⟩) (fun i => xs.length - i)
      (fun i => i ≤ xs.length ∧ okRow (entS gone) xs = okGo (entS gone) xs i (xs.drop i)) 0 [] ⟨Nat.zero_le _, rfl⟩ ?_ ?_
    · simp only [mvcgen_simp, method_specs_simp, seval]
    · rintro i ⟨hi, hr⟩
      refine CW.sound ?_
      simp (maxSteps := 4000000) only [method_specs_simp, seval]
      refine gB_split (fun h => ?_) (fun h => ?_)
      · simp only [decide_eq_true_eq, Int.ofNat_lt] at h
        have hxi : xs[i]? = some xs[i] := List.getElem?_eq_getElem h
        generalize xs[i] = x at hxi
        rw [drop_cons hxi, okGo] at hr
        have hw : IntKind.i64.wrap ((i : Int) + 1) = (i : Int) + 1 := wrap_id (by omega) (by omega)
        simp (maxSteps := 4000000) only [hxi, method_specs_simp, seval, hw]
        have hok : okAt (entS gone) xs i x = (entS gone x && (i == 0 || match xs[i - 1]? with
          | some p => lessE p x
          | none => true)) := rfl
        have ht : ∀ p, List.take 3 (encEnt p) = encEnt p := fun p => rfl
        refine ⟨by kernel_rfl, by omega, by omega, by simp [encEnt], ?_⟩
        rw [ht]
        refine clY.con (c116 x gone) (by simp only [method_specs_simp, encEnt]) ?_
        simp (maxSteps := 4000000) only [method_specs_simp, seval]
        cases h1 : entS gone x with
        | false =>
          simp only [method_specs_simp]
          rw [hr, hok, h1]
          rfl
        | true =>
          simp only [method_specs_simp]
          rw [h1, Bool.true_and] at hok
          refine gB_split (fun h4 => ?_) (fun h4 => ?_)
          · simp only [decide_eq_true_eq] at h4
            have hw2 : IntKind.i64.wrap ((i : Int) - 1) = ((i - 1 : Nat) : Int) := by rw [wrap_id (by omega) (by omega)]; omega
            obtain ⟨p, hp⟩ : ∃ p, xs[i - 1]? = some p := ⟨xs[i - 1], List.getElem?_eq_getElem (by omega)⟩
            have hi0 : (i == 0) = false := by simp; omega
            rw [hi0, hp, Bool.false_or] at hok
            replace hok : okAt (entS gone) xs i x = lessE p x := hok
            simp (maxSteps := 4000000) only [hp, hxi, hw2, method_specs_simp, seval]
            refine ⟨by omega, by omega, by simp [encEnt], by omega, by omega, by simp [encEnt], ?_⟩
            rw [ht, ht]
            refine clY.con (c155 p x) (by simp only [method_specs_simp, encEnt]) ?_
            simp (maxSteps := 4000000) only [method_specs_simp, seval]
            cases h5 : lessE p x with
            | false =>
              simp only [method_specs_simp, Bool.not_false]
              rw [hr, hok, h5]
              rfl
            | true =>
              simp only [method_specs_simp, Bool.not_true]
              refine Again.mk (i + 1) [] ⟨h, by rw [hr, hok, h5, Bool.true_and]⟩ (Nat.sub_lt_sub_left h (Nat.lt_succ_self _)) ?_
              simp only [mvcgen_simp, method_specs_simp, seval, hw]
          · simp only [decide_eq_false_iff_not, Bool.not_true] at h4
            have hi0 : (i == 0) = true := by simp; omega
            rw [hi0, Bool.true_or] at hok
            refine Again.mk (i + 1) [] ⟨h, by rw [hr, hok, Bool.true_and]⟩ (Nat.sub_lt_sub_left h (Nat.lt_succ_self _)) ?_
            simp only [mvcgen_simp, method_specs_simp, seval, hw]
      · simp only [decide_eq_false_iff_not, Bool.not_true, Int.ofNat_lt] at h
        rw [List.drop_eq_nil_of_le (by omega), okGo] at hr
        rw [hr]
theorem c115 (xs : List Ent) (hx : xs.length < 2 ^ 62) : Con P 86 [.sl 3 (xs.map encEnt)] (.bool (decide (xs.length ≤ 400) && okRow (entS false) xs)) := by
  refine Con.of (n := 5) (rs := [.tmp 2]) (Is.fn Try.func86) rfl (Is.call Try.call86) Try.results86 Try.ntmps86 trivial ?_
  simp (maxSteps := 4000000) only [method_specs_simp, seval]
  refine clY.con (c122 xs false hx) (by simp only [method_specs_simp]) ?_
  simp (maxSteps := 4000000) only [method_specs_simp, seval]
end
theorem okRow_f (xs : List Ent) : okRow (entS false) xs = okRow (entI 1) xs := by rw [show entS false = entI 1 from funext entS_f]
theorem okRow_t (xs : List Ent) : okRow (entS true) xs = okRow (entI 0) xs := by rw [show entS true = entI 0 from funext entS_t]
end Go.Proofs.Ytkcllejnmpnjfaa
