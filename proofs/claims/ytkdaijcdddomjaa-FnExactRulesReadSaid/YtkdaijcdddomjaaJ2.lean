/- RulesRight of the reference and of the program, and the law FnExactRulesRight hands back true. No conditions but lengths. -/
import Derived.Test.YtkdaijcdddomjaaJ1
namespace Go.Proofs.Ytkdaijcdddomjaa
open Go.Pm
set_option maxRecDepth 10000
set_option linter.unusedSimpArgs false
def emptyB (s : ByteArray) : Bool := s.toList == (⟨#[]⟩ : ByteArray).toList
def numOk (x : Rule) : Bool := if (x.kind == 2) = true then isB x.n 1 6 else if (x.kind == 3) = true then isB x.n 1 3 else (x.n == 0)
def ruleS (x : Rule) : Bool := if (!isB x.kind 1 5 || !isB x.loud 0 2) = true then false else if (((x.kind == 1) != !emptyB x.text) || decide ((x.text.size : Int) > 10)) = true then false else numOk x
def textOk (x : Rule) : Bool := if (x.kind == 1) = true then isB x.text.size 1 10 else emptyB x.text
def ruleI (x : Rule) : Bool := isB x.kind 1 5 && isB x.loud 0 2 && numOk x && textOk x
theorem emptyB_iff (s : ByteArray) : emptyB s = true ↔ s.size = 0 := by
  unfold emptyB
  rw [beq_iff_eq]
  constructor
  · intro h
    by_cases h0 : s.size = 0
    · exact h0
    · exfalso
      have := congrArg List.length h
      rw [ByteArray.toList_eq, ByteArray.toList_eq] at this
      exact h0 (by simpa using this)
  · intro h
    have : s = ⟨#[]⟩ := by
      cases s with
      | mk d => congr; exact Array.eq_empty_of_size_eq_zero h
    rw [this]
theorem rule_same (x : Rule) : ruleS x = ruleI x := by
  have he := emptyB_iff x.text
  unfold ruleS ruleI textOk
  cases isB x.kind 1 5 <;> cases isB x.loud 0 2 <;> simp only [Bool.not_true, Bool.not_false, Bool.or_true, Bool.true_or, Bool.or_false, Bool.false_eq_true, if_true, if_false, Bool.false_and, Bool.and_false, Bool.true_and]
  cases hk : (x.kind == 1) with
  | true =>
    cases hem : emptyB x.text with
    | true =>
      have := he.1 hem
      simp [isB, this]
    | false =>
      have : x.text.size ≠ 0 := fun h => by rw [he.2 h] at hem; cases hem
      by_cases h10 : (x.text.size : Int) > 10
      · have h1 : isB x.text.size 1 10 = false := by
          unfold isB
          rw [Bool.and_eq_false_iff]
          right; rw [decide_eq_false_iff_not]; omega
        simp [h10, h1]
      · have h1 : isB x.text.size 1 10 = true := by simp [isB]; omega
        simp [h10, h1]
  | false =>
    cases hem : emptyB x.text with
    | true =>
      have := he.1 hem
      simp [this]
    | false => simp
def allRules (xs : List Rule) : Bool := xs.all ruleI
def rulesOk (xs : List Rule) : Bool := decide ((xs.length : Int) ≤ 20) && allRules xs
def firstBad : List Rule → Nat → Option Nat
  | [], _ => none
  | x :: xs, i => if ruleI x then firstBad xs (i + 1) else some i
def idxR : Option Nat → Int
  | some i => i
  | none => -1
theorem firstBad_all : ∀ (xs : List Rule) (k : Nat), decide (idxR (firstBad xs k) ≥ 0) = !allRules xs
  | [], k => by simp [firstBad, idxR, allRules]
  | x :: xs, k => by
    unfold firstBad allRules
    rw [List.all_cons]
    cases h : ruleI x with
    | true =>
      simp only [if_true, Bool.true_and]
      exact firstBad_all xs (k + 1)
    | false => simp [idxR]
section
variable {P : Program} [Is P]
theorem c141 (n : Int) : Con P 141 [.int .i64 n] (.bool (isB n 1 3)) := by
  refine Con.of (n := 5) (rs := [.tmp 2]) (Is.fn Try.func141) rfl (Is.call Try.call141) Try.results141 Try.ntmps141 trivial ?_
  simp (maxSteps := 4000000) only [method_specs_simp, seval]
  refine clY.con (c75 _ _ _) (by simp only [method_specs_simp]) ?_
  simp (maxSteps := 4000000) only [method_specs_simp, seval]
theorem c143 (n : Int) : Con P 143 [.int .i64 n] (.bool (isB n 1 3)) := by
  refine Con.of (n := 5) (rs := [.tmp 2]) (Is.fn Try.func143) rfl (Is.call Try.call143) Try.results143 Try.ntmps143 trivial ?_
  simp (maxSteps := 4000000) only [method_specs_simp, seval]
  refine clY.con (c78 _ _ _) (by simp only [method_specs_simp]) ?_
  simp (maxSteps := 4000000) only [method_specs_simp, seval]
theorem c144 (n : Int) : Con P 144 [.int .i64 n] (.bool (isB n 0 2)) := by
  refine Con.of (n := 5) (rs := [.tmp 2]) (Is.fn Try.func144) rfl (Is.call Try.call144) Try.results144 Try.ntmps144 trivial ?_
  simp (maxSteps := 4000000) only [method_specs_simp, seval]
  refine clY.con (c78 _ _ _) (by simp only [method_specs_simp]) ?_
  simp (maxSteps := 4000000) only [method_specs_simp, seval]
theorem c83 (x : Rule) : Con P 83 [.agg (encRule x)] (.bool (ruleS x)) := by
  refine Con.of (n := 41) (rs := [.tmp 2]) (Is.fn Try.func83) rfl (Is.call Try.call83) Try.results83 Try.ntmps83 trivial ?_
  simp (maxSteps := 4000000) only [method_specs_simp, seval, encRule]
  refine clY.con (c75 _ _ _) (by simp only [method_specs_simp]) ?_
  unfold ruleS
  cases h1 : isB x.kind 1 5 with
  | false =>
    simp (maxSteps := 4000000) only [method_specs_simp, seval, encRule, Bool.true_or, Bool.or_true]
  | true =>
    simp (maxSteps := 4000000) only [method_specs_simp, seval, encRule]
    refine clY.con (c75 _ _ _) (by simp only [method_specs_simp]) ?_
    cases h2 : isB x.loud 0 2 with
    | false => simp (maxSteps := 4000000) only [method_specs_simp, seval, encRule, Bool.true_or, Bool.or_true]
    | true =>
      simp (maxSteps := 4000000) only [method_specs_simp, seval, encRule]
      have he : (x.text.toList == (⟨#[]⟩ : ByteArray).toList) = emptyB x.text := rfl
      rw [he]
      simp only [Bool.or_self, Bool.false_eq_true, if_false]
      refine gB_split (fun h3 => ?_) (fun h3 => ?_)
      · refine gB_split (fun h4 => ?_) (fun h4 => ?_)
        · rw [h4, Bool.or_true, if_pos rfl]
        · have h4 : decide ((x.text.size : Int) > 10) = false := h4
          rw [h3, h4, Bool.or_false, if_neg (by simp)]
          unfold numOk
          refine gB_split (fun h5 => ?_) (fun h5 => ?_)
          · refine clY.con (c76 _) (by simp only [method_specs_simp]) ?_
            simp (maxSteps := 4000000) only [method_specs_simp, seval, encRule]
            rw [if_pos h5]
          · have h5 : (x.kind == 2) = false := h5
            rw [h5, if_neg (by simp)]
            refine gB_split (fun h6 => ?_) (fun h6 => ?_)
            · refine clY.con (c141 _) (by simp only [method_specs_simp]) ?_
              simp (maxSteps := 4000000) only [method_specs_simp, seval, encRule]
              rw [if_pos h6]
            · have h6 : (x.kind == 3) = false := h6
              rw [h6]; rfl
      · have h3 : ((x.kind == 1) != !emptyB x.text) = true := by simpa using h3
        rw [h3, Bool.true_or, if_pos rfl]
theorem c86 (x : Rule) (h : Con P 87 [.agg (encRule x)] (.bool (ruleI x))) : Con P 86 [.agg (encRule x)] (.bool (!ruleI x)) := by
  refine Con.of (n := 6) (rs := [.tmp 2]) (Is.fn Try.func86) rfl (Is.call Try.call86) Try.results86 Try.ntmps86 trivial ?_
  simp (maxSteps := 4000000) only [method_specs_simp, seval, encRule]
  refine clY.con h (by simp only [method_specs_simp, encRule]) ?_
  simp (maxSteps := 4000000) only [method_specs_simp, seval, encRule]
theorem c87 (x : Rule) : Con P 87 [.agg (encRule x)] (.bool (ruleI x)) := by
  refine Con.of (n := 43) (rs := [.tmp 2]) (Is.fn Try.func87) rfl (Is.call Try.call87) Try.results87 Try.ntmps87 trivial ?_
  simp (maxSteps := 4000000) only [method_specs_simp, seval, encRule]
  refine ⟨by kernel_rfl, ?_⟩
  have he : (x.text.toList == (⟨#[]⟩ : ByteArray).toList) = emptyB x.text := rfl
  unfold ruleI numOk textOk
  cases k1 : (x.kind == 1) with
  | true =>
    have e1 : x.kind = 1 := by simpa using k1
    have k2 : (x.kind == 2) = false := by rw [e1]; rfl
    have k3 : (x.kind == 3) = false := by rw [e1]; rfl
    simp (maxSteps := 4000000) only [method_specs_simp, seval, encRule]
    refine clY.con (c78 _ _ _) (by simp only [method_specs_simp]) ?_
    simp (maxSteps := 4000000) only [method_specs_simp, seval, encRule]
    refine clY.con (c78 _ _ _) (by simp only [method_specs_simp]) ?_
    simp (maxSteps := 4000000) only [method_specs_simp, seval, encRule]
    refine gB_split (fun h3 => ?_) (fun h3 => ?_)
    · refine clY.con (c144 _) (by simp only [method_specs_simp]) ?_
      simp (maxSteps := 4000000) only [method_specs_simp, seval, encRule]
      rw [h3]
      try simp only [k2, k3]
      cases isB x.loud 0 2 <;> cases (x.n == 0) <;> cases isB (x.text.size : Int) 1 10 <;> simp [gB]
    · have h3 : isB x.kind 1 5 = false := h3
      rw [h3]; simp
  | false =>
    simp (maxSteps := 4000000) only [method_specs_simp, seval, encRule]
    rw [he]
    cases k2 : (x.kind == 2) with
    | true =>
      have e1 : x.kind = 2 := by simpa using k2
      have k3 : (x.kind == 3) = false := by rw [e1]; rfl
      simp (maxSteps := 4000000) only [method_specs_simp, seval, encRule]
      refine clY.con (c79 _) (by simp only [method_specs_simp]) ?_
      simp (maxSteps := 4000000) only [method_specs_simp, seval, encRule]
      refine clY.con (c78 _ _ _) (by simp only [method_specs_simp]) ?_
      simp (maxSteps := 4000000) only [method_specs_simp, seval, encRule]
      refine gB_split (fun h3 => ?_) (fun h3 => ?_)
      · refine clY.con (c144 _) (by simp only [method_specs_simp]) ?_
        simp (maxSteps := 4000000) only [method_specs_simp, seval, encRule]
        rw [h3]
        try simp only [k2, k3]
        cases isB x.loud 0 2 <;> cases isB x.n 1 6 <;> cases emptyB x.text <;> simp [gB]
      · have h3 : isB x.kind 1 5 = false := h3
        rw [h3]; simp
    | false =>
      cases k3 : (x.kind == 3) with
      | true =>
        simp (maxSteps := 4000000) only [method_specs_simp, seval, encRule]
        refine clY.con (c143 _) (by simp only [method_specs_simp]) ?_
        simp (maxSteps := 4000000) only [method_specs_simp, seval, encRule]
        refine clY.con (c78 _ _ _) (by simp only [method_specs_simp]) ?_
        simp (maxSteps := 4000000) only [method_specs_simp, seval, encRule]
        refine gB_split (fun h3 => ?_) (fun h3 => ?_)
        · refine clY.con (c144 _) (by simp only [method_specs_simp]) ?_
          simp (maxSteps := 4000000) only [method_specs_simp, seval, encRule]
          rw [h3]
          try simp only [k2, k3]
          cases isB x.loud 0 2 <;> cases isB x.n 1 3 <;> cases emptyB x.text <;> simp [gB]
        · have h3 : isB x.kind 1 5 = false := h3
          rw [h3]; simp
      | false =>
        simp (maxSteps := 4000000) only [method_specs_simp, seval, encRule]
        refine clY.con (c78 _ _ _) (by simp only [method_specs_simp]) ?_
        simp (maxSteps := 4000000) only [method_specs_simp, seval, encRule]
        refine gB_split (fun h3 => ?_) (fun h3 => ?_)
        · refine clY.con (c144 _) (by simp only [method_specs_simp]) ?_
          simp (maxSteps := 4000000) only [method_specs_simp, seval, encRule]
          rw [h3]
          try simp only [k2, k3]
          cases isB x.loud 0 2 <;> cases (x.n == 0) <;> cases emptyB x.text <;> simp [gB]
        · have h3 : isB x.kind 1 5 = false := h3
          rw [h3]; simp
theorem c142 (xs : List Rule) (hx : xs.length < 2 ^ 62) : Con P 142 [.sl 4 (xs.map encRule), .fn 86 [] []] (.int .i64 (idxR (firstBad xs 0))) := by
  refine Con.of (n := 19) (rs := [.tmp 4]) (Is.fn Try.func142) rfl (Is.call Try.call142) Try.results142 Try.ntmps142 trivial ?_
  simp (maxSteps := 4000000) only [method_specs_simp, seval]
  refine SW.while (A := Nat) (fun i => ⟨pad 19 [.sl 4 (xs.map encRule), .fn 86 [] [], .junk, .junk, .int .i64 0, .junk, .sl 4 (xs.map encRule), .int .i64 xs.length, .int .i64 i], [], []⟩)
    (fun i => xs.length - i) (fun i => i ≤ xs.length ∧ firstBad xs 0 = firstBad (xs.drop i) i) 0 [] ⟨Nat.zero_le _, rfl⟩ ?_ ?_
  · simp only [mvcgen_simp, method_specs_simp, seval]
  · rintro i ⟨hi, hr⟩
    refine CW.sound ?_
    simp (maxSteps := 4000000) only [method_specs_simp, seval]
    refine gB_split (fun h => ?_) (fun h => ?_)
    · simp only [decide_eq_true_eq, Int.ofNat_lt] at h
      have hxk : xs[i]? = some xs[i] := List.getElem?_eq_getElem h
      generalize xs[i] = x at hxk
      simp (maxSteps := 4000000) only [hxk, method_specs_simp, seval]
      refine ⟨by omega, by omega, by simp [encRule], ?_⟩
      have e : List.take 4 (encRule x) = encRule x := rfl
      rw [e]
      refine clY.con (c86 x (c87 x)) (by simp only [method_specs_simp, encRule]) ?_
      simp (maxSteps := 4000000) only [method_specs_simp, seval]
      rw [drop_cons hxk, firstBad] at hr
      refine gB_split (fun h2 => ?_) (fun h2 => ?_)
      · have h2 : ruleI x = false := by simpa using h2
        rw [hr, h2]; rfl
      · have h2 : ruleI x = true := by simpa using h2
        rw [h2] at hr
        rw [wrap_id (by omega) (by omega)]
        refine Again.mk (i + 1) [] ⟨h, by rw [hr]; rfl⟩ (Nat.sub_lt_sub_left h (Nat.lt_succ_self _)) ?_
        simp only [mvcgen_simp, method_specs_simp, seval]
    · simp only [decide_eq_false_iff_not, Bool.not_true, Int.ofNat_lt] at h
      rw [hr, List.drop_eq_nil_of_le (by omega)]; rfl
theorem c85 (xs : List Rule) (hx : xs.length < 2 ^ 62) : Con P 85 [.sl 4 (xs.map encRule), .fn 86 [] []] (.bool (!allRules xs)) := by
  refine Con.of (n := 9) (rs := [.tmp 4]) (Is.fn Try.func85) rfl (Is.call Try.call85) Try.results85 Try.ntmps85 trivial ?_
  simp (maxSteps := 4000000) only [method_specs_simp, seval]
  refine clY.con (c142 xs hx) (by simp only [method_specs_simp]) ?_
  simp (maxSteps := 4000000) only [method_specs_simp, seval]
  rw [firstBad_all]
theorem c23 (xs : List Rule) (hx : xs.length < 2 ^ 62) : Con P 23 [.sl 4 (xs.map encRule)] (.bool (rulesOk xs)) := by
  refine Con.of (n := 11) (rs := [.tmp 2]) (Is.fn Try.func23) rfl (Is.call Try.call23) Try.results23 Try.ntmps23 trivial ?_
  simp (maxSteps := 4000000) only [method_specs_simp, seval]
  unfold rulesOk
  refine gB_split (fun h => ?_) (fun h => ?_)
  · refine clY.con (c85 xs hx) (by simp only [method_specs_simp]) ?_
    simp (maxSteps := 4000000) only [method_specs_simp, seval]
    rw [h, Bool.not_not, Bool.true_and]
  · rw [h]; rfl
theorem c21 (xs : List Rule) (hx : xs.length < 2 ^ 62) : Con P 21 [.sl 4 (xs.map encRule)] (.bool (rulesOk xs)) := by
  refine Con.of (n := 19) (rs := [.tmp 2]) (Is.fn Try.func21) rfl (Is.call Try.call21) Try.results21 Try.ntmps21 trivial ?_
  simp (maxSteps := 4000000) only [method_specs_simp, seval]
  have h20 : decide ((xs.length : Int) ≤ 20) = !decide ((xs.length : Int) > 20) := by
    by_cases h : (xs.length : Int) > 20 <;> simp [h] <;> omega
  unfold rulesOk
  rw [h20]
  refine gB_split (fun h => ?_) (fun h => ?_)
  · rw [h]; rfl
  · simp only [Bool.not_true] at h
    rw [h, Bool.not_false, Bool.true_and]
    refine SW.while (A := Nat) (fun k => ⟨pad 19 [.sl 4 (xs.map encRule), .junk, .bool false, .int .i64 k], [], []⟩) (fun k => xs.length - k)
      (fun k => k ≤ xs.length ∧ allRules xs = allRules (xs.drop k)) 0 [] ⟨Nat.zero_le _, rfl⟩ ?_ ?_
    · simp only [mvcgen_simp, method_specs_simp, seval]
    · rintro k ⟨hk, hr⟩
      refine CW.sound ?_
      simp (maxSteps := 4000000) only [method_specs_simp, seval]
      refine gB_split (fun h => ?_) (fun h => ?_)
      · simp only [decide_eq_true_eq, Int.ofNat_lt] at h
        have hxk : xs[k]? = some xs[k] := List.getElem?_eq_getElem h
        generalize xs[k] = x at hxk
        simp (maxSteps := 4000000) only [hxk, method_specs_simp, seval]
        refine ⟨by omega, by omega, by simp [encRule], ?_⟩
        have e : List.take 4 (encRule x) = encRule x := rfl
        rw [e]
        refine clY.con (c83 x) (by simp only [method_specs_simp, encRule]) ?_
        simp (maxSteps := 4000000) only [method_specs_simp, seval]
        rw [rule_same]
        have hac : allRules (x :: List.drop (k + 1) xs) = (ruleI x && allRules (List.drop (k + 1) xs)) := rfl
        rw [drop_cons hxk, hac] at hr
        refine gB_split (fun h2 => ?_) (fun h2 => ?_)
        · have h2 : ruleI x = false := by simpa using h2
          rw [hr, h2]; rfl
        · have h2 : ruleI x = true := by simpa using h2
          rw [h2, Bool.true_and] at hr
          rw [wrap_id (by omega) (by omega)]
          refine Again.mk (k + 1) [] ⟨h, hr⟩ (Nat.sub_lt_sub_left h (Nat.lt_succ_self _)) ?_
          simp only [mvcgen_simp, method_specs_simp, seval]
      · simp only [decide_eq_false_iff_not, Bool.not_true, Int.ofNat_lt] at h
        rw [hr, List.drop_eq_nil_of_le (by omega)]; rfl
theorem hlr_of {xs : List Rule} (hx : xs.length < 2 ^ 62) (h : decide (szRuleS xs 1048576 < 0) = !true) : xs.length ≤ 1048576 := by
  simp only [Bool.not_true, decide_eq_false_iff_not] at h
  by_cases h' : IntKind.i64.wrap (1048576 - (xs.length : Int)) < 0
  · exact absurd (by simp [szRuleS, h']) h
  · rw [wrap_id (by omega) (by omega)] at h'
    omega
theorem c4 (xs : List Rule) (hx : xs.length < 2 ^ 62) : Con P 4 [.sl 4 (xs.map encRule)] (.bool true) := by
  refine Con.of (n := 27) (rs := [.tmp 2]) (Is.fn Try.func4) rfl (Is.call Try.call4) Try.results4 Try.ntmps4 trivial ?_
  simp (maxSteps := 4000000) only [method_specs_simp, seval]
  refine clY.con (c20 _ _ hx) (by simp only [method_specs_simp]) ?_
  simp (maxSteps := 4000000) only [method_specs_simp, seval]
  refine gB_split (fun h => ?_) (fun h => ?_)
  · trivial
  · have hl := hlr_of hx h
    refine clY.con (c22 _ (by omega)) (by simp only [method_specs_simp]) ?_
    simp (maxSteps := 4000000) only [method_specs_simp, seval]
    refine clY.con (c21 _ hx) (by simp only [method_specs_simp]) ?_
    simp (maxSteps := 4000000) only [method_specs_simp, seval]
    refine clY.con (c22 _ (by omega)) (by simp only [method_specs_simp]) ?_
    simp (maxSteps := 4000000) only [method_specs_simp, seval]
    refine clY.con (c23 _ hx) (by simp only [method_specs_simp]) ?_
    simp (maxSteps := 4000000) only [method_specs_simp, seval, bne_self_eq_false]
    refine clY.con (c22 _ (by omega)) (by simp only [method_specs_simp]) ?_
    simp (maxSteps := 4000000) only [method_specs_simp, seval]
    refine clY.con (c24 _ _ hx) (by simp only [method_specs_simp]) ?_
    simp (maxSteps := 4000000) only [method_specs_simp, seval, eqRuleS_same]
end
end Go.Proofs.Ytkdaijcdddomjaa
