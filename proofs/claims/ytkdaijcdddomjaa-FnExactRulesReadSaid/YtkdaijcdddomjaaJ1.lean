/- Rules: sizes, copies, comparisons. No conditions but lengths. -/
import Derived.Test.YtkdaijcdddomjaaI1
namespace Go.Proofs.Ytkdaijcdddomjaa
open Go.Pm
set_option maxRecDepth 10000
set_option linter.unusedSimpArgs false
structure Rule where
  kind : Int
  n : Int
  text : ByteArray
  loud : Int
def encRule (x : Rule) : List V := [.int .i64 x.kind, .int .i64 x.n, .str x.text, .int .i64 x.loud]
@[method_specs_simp] theorem encRule_refs (ok : Nat → Prop) (xs : List Rule) : Refss ok (xs.map encRule) = True := eq_true (Refss_map fun a => by simp [encRule, Refs, Ref])
@[method_specs_simp] theorem encRule_rens (ρ : Nat → Nat) (xs : List Rule) : renss ρ (xs.map encRule) = xs.map encRule := renss_map fun a => by simp [encRule, Refs, Ref]
def szRule (x : Rule) (l : Int) : Int := if IntKind.i64.wrap (l - x.text.size) < 0 then -1 else IntKind.i64.wrap (l - x.text.size)
def eqRule (x y : Rule) : Bool := !(x.kind != y.kind) && (!(x.n != y.n) && ((x.text.toList == y.text.toList) && !(x.loud != y.loud)))
def szRules : List Rule → Int → Int
  | [], l => l
  | x :: xs, l => if szRule x l < 0 then -1 else szRules xs (szRule x l)
def szRuleS (xs : List Rule) (l : Int) : Int := if IntKind.i64.wrap (l - xs.length) < 0 then -1 else szRules xs (IntKind.i64.wrap (l - xs.length))
def eqRules : List Rule → List Rule → Bool
  | x :: xs, y :: ys => eqRule x y && eqRules xs ys
  | _, _ => true
def eqRuleS (xs ys : List Rule) : Bool := if (xs.length : Int) != ys.length then false else eqRules xs ys
theorem eqRule_same (x : Rule) : eqRule x x = true := by simp [eqRule]
theorem eqRules_same : ∀ xs : List Rule, eqRules xs xs = true
  | [] => rfl
  | x :: xs => by simp [eqRules, eqRule_same, eqRules_same xs]
theorem eqRuleS_same (xs : List Rule) : eqRuleS xs xs = true := by simp [eqRuleS, eqRules_same]
section
variable {P : Program} [Is P]
theorem c82 (x : Rule) (l : Int) : Con P 82 [.agg (encRule x), .int .i64 l] (.int .i64 (szRule x l)) := by
  refine Con.of (n := 13) (rs := [.tmp 4]) (Is.fn Try.func82) rfl (Is.call Try.call82) Try.results82 Try.ntmps82 trivial ?_
  simp only [method_specs_simp, encRule, seval]
  refine gB_split (fun h => ?_) (fun h => ?_) <;> simp at h <;> simp [szRule, h]
  omega
theorem c84 (x : Rule) : Con P 84 [.agg (encRule x)] (.agg (encRule x)) := by
  refine Con.of (n := 17) (rs := [.cell 2 112]) (Is.fn Try.func84) rfl (Is.call Try.call84) Try.results84 Try.ntmps84 (by simp only [method_specs_simp, encRule]) ?_
  simp only [method_specs_simp, encRule, seval]
theorem c88 (x y : Rule) : Con P 88 [.agg (encRule x), .agg (encRule y)] (.bool (eqRule x y)) := by
  refine Con.of (n := 25) (rs := [.tmp 4]) (Is.fn Try.func88) rfl (Is.call Try.call88) Try.results88 Try.ntmps88 trivial ?_
  simp only [method_specs_simp, encRule, seval]
  simp only [gB, eqRule]
  cases x.kind != y.kind <;> cases x.n != y.n <;> cases x.text.toList == y.text.toList <;> cases x.loud != y.loud <;> simp
theorem c20 (xs : List Rule) (l : Int) (hx : xs.length < 2 ^ 62) : Con P 20 [.sl 4 (xs.map encRule), .int .i64 l] (.int .i64 (szRuleS xs l)) := by
  refine Con.of (n := 27) (rs := [.tmp 4]) (Is.fn Try.func20) rfl (Is.call Try.call20) Try.results20 Try.ntmps20 trivial ?_
  simp (maxSteps := 4000000) only [method_specs_simp, seval]
  refine gB_split (fun h => ?_) (fun h => ?_)
  · simp at h; simp [szRuleS, h]
  · simp at h
    refine SW.while (A := Nat × Int) (fun a => ⟨pad 27 [.sl 4 (xs.map encRule), .int .i64 a.2, .junk, .junk, .int .i64 0, .int .i64 a.1], [], []⟩) (fun a => xs.length - a.1)
      (fun a => a.1 ≤ xs.length ∧ szRuleS xs l = szRules (xs.drop a.1) a.2) (0, IntKind.i64.wrap (l - xs.length)) [] ⟨Nat.zero_le _, ?_⟩ ?_ ?_
    · have : ¬ IntKind.i64.wrap (l - xs.length) < 0 := by omega
      simp [szRuleS, this]
    · simp (maxSteps := 4000000) only [method_specs_simp, seval]
    · rintro ⟨k, r⟩ ⟨hk, hr⟩
      refine CW.sound ?_
      simp (maxSteps := 4000000) only [method_specs_simp, seval]
      refine gB_split (fun h => ?_) (fun h => ?_)
      · simp only [decide_eq_true_eq, Int.ofNat_lt] at h
        have hxk : xs[k]? = some xs[k] := List.getElem?_eq_getElem h
        generalize xs[k] = x at hxk
        simp only [List.getElem?_map, hxk, method_specs_simp]
        refine ⟨by omega, by omega, by simp [encRule], ?_⟩
        refine clY.con (c82 x r) (by simp only [method_specs_simp, encRule]) ?_
        simp (maxSteps := 4000000) only [method_specs_simp, seval]
        rw [drop_cons hxk, szRules] at hr
        refine gB_split (fun h' => ?_) (fun h' => ?_)
        · simp at h'; simp [hr, h']
        · simp at h'
          rw [wrap_id (by omega) (by omega)]
          refine Again.mk (k + 1, szRule x r) [] ⟨h, ?_⟩ (Nat.sub_lt_sub_left h (Nat.lt_succ_self _)) ?_
          · rw [hr, if_neg (Int.not_lt.2 h')]
          · simp (maxSteps := 4000000) only [method_specs_simp, seval]
      · simp only [decide_eq_false_iff_not, Bool.not_true, Int.ofNat_lt] at h
        rw [hr, List.drop_eq_nil_of_le (by simp only; omega), szRules]
theorem c24 (xs ys : List Rule) (hx : xs.length < 2 ^ 62) : Con P 24 [.sl 4 (xs.map encRule), .sl 4 (ys.map encRule)] (.bool (eqRuleS xs ys)) := by
  refine Con.of (n := 27) (rs := [.tmp 4]) (Is.fn Try.func24) rfl (Is.call Try.call24) Try.results24 Try.ntmps24 trivial ?_
  simp (maxSteps := 4000000) only [method_specs_simp, seval]
  refine gB_split (fun h => ?_) (fun h => ?_)
  · simp [eqRuleS, h]
  · have hl : xs.length = ys.length := by simp at h; omega
    refine SW.while (A := Nat) (fun k => ⟨pad 27 [.sl 4 (xs.map encRule), .sl 4 (ys.map encRule), .junk, .junk, .bool false, .int .i64 k], [], []⟩) (fun k => xs.length - k)
      (fun k => k ≤ xs.length ∧ eqRuleS xs ys = eqRules (xs.drop k) (ys.drop k)) 0 [] ⟨Nat.zero_le _, ?_⟩ ?_ ?_
    · simp [eqRuleS, hl]
    · simp (maxSteps := 4000000) only [method_specs_simp, seval]
    · rintro k ⟨hk, hr⟩
      refine CW.sound ?_
      simp (maxSteps := 4000000) only [method_specs_simp, seval]
      refine gB_split (fun h => ?_) (fun h => ?_)
      · simp only [decide_eq_true_eq, Int.ofNat_lt] at h
        have h2 : k < ys.length := by omega
        have hxk : xs[k]? = some xs[k] := List.getElem?_eq_getElem h
        have hyk : ys[k]? = some ys[k] := List.getElem?_eq_getElem h2
        generalize xs[k] = x at hxk
        generalize ys[k] = y at hyk
        simp only [List.getElem?_map, hxk, hyk, method_specs_simp, seval]
        refine ⟨by kernel_rfl, by omega, by omega, by simp [encRule], by omega, by omega, by simp [encRule], ?_⟩
        refine clY.con (c88 x y) (by simp only [method_specs_simp, encRule]) ?_
        simp (maxSteps := 4000000) only [method_specs_simp, seval]
        rw [drop_cons hxk, drop_cons hyk, eqRules] at hr
        refine gB_split (fun h' => ?_) (fun h' => ?_)
        · simp at h'; simp [hr, h']
        · simp at h'
          rw [wrap_id (by omega) (by omega)]
          refine Again.mk (k + 1) [] ⟨h, ?_⟩ (Nat.sub_lt_sub_left h (Nat.lt_succ_self _)) ?_
          · simp [hr, h']
          · simp (maxSteps := 4000000) only [method_specs_simp, seval]
      · simp only [decide_eq_false_iff_not, Bool.not_true, Int.ofNat_lt] at h
        rw [hr, List.drop_eq_nil_of_le (by omega), eqRules]
        simp
theorem c22 (xs : List Rule) (hx : xs.length * 40 ≤ 2 ^ 47) : Con P 22 [.sl 4 (xs.map encRule)] (.sl 4 (xs.map encRule)) := by
  refine Con.of (n := 23) (rs := [.tmp 2]) (Is.fn Try.func22) rfl (Is.call Try.call22) Try.results22 Try.ntmps22 (by simp only [method_specs_simp]) ?_
  simp (maxSteps := 4000000) only [method_specs_simp, seval]
  refine ⟨by omega, by omega, by omega, ?_⟩
  refine SW.while (A := Nat × List Rule) (fun a => ⟨pad 23 [.sl 4 (xs.map encRule), .junk, .nil, .ar 0 0 xs.length, .int .i64 a.1], [.arr true 4 (a.2.map encRule)], []⟩) (fun a => xs.length - a.1)
      (fun a => a.1 ≤ xs.length ∧ a.2.length = xs.length ∧ a.2.take a.1 = xs.take a.1) (0, List.replicate xs.length ⟨0, 0, ByteArray.empty, 0⟩) [0] ⟨Nat.zero_le _, by simp, by simp⟩ ?_ ?_
  · have e : List.replicate xs.length [V.int IntKind.i64 0, V.int IntKind.i64 0, V.str ByteArray.empty, V.int IntKind.i64 0] = (List.replicate xs.length (⟨0, 0, ByteArray.empty, 0⟩ : Rule)).map encRule := by simp [encRule]
    rw [e]
    simp only [mvcgen_simp, method_specs_simp, seval]
  · rintro ⟨k, ys⟩ ⟨hk, hy, hr⟩
    simp only at hk hy hr
    refine CW.sound ?_
    simp (maxSteps := 4000000) only [method_specs_simp, seval]
    refine gB_split (fun h => ?_) (fun h => ?_)
    · simp only [decide_eq_true_eq, Int.ofNat_lt] at h
      have hxk : xs[k]? = some xs[k] := List.getElem?_eq_getElem h
      generalize hxx : xs[k] = x at hxk
      simp only [List.getElem?_map, hxk, method_specs_simp, seval]
      refine ⟨by omega, by omega, by simp [encRule], ?_⟩
      refine clY.con (c84 x) (by simp only [method_specs_simp, encRule]) ?_
      simp (maxSteps := 4000000) only [method_specs_simp, seval]
      refine ⟨by omega, by omega, by omega, by simp [encRule, oneV], rfl, by simp [encRule], ?_⟩
      rw [wrap_id (by omega) (by omega)]
      refine Again.mk (k + 1, ys.set k x) [0] ⟨h, by simpa using hy, ?_⟩ (Nat.sub_lt_sub_left h (Nat.lt_succ_self _)) ?_
      · apply List.ext_getElem?
        intro i
        have := congrArg (fun l => l[i]?) hr
        simp only [List.getElem?_take, List.getElem?_set] at this ⊢
        by_cases e : k = i
        · subst e; simp [hxx, hy, h]
        · split
          · rw [if_pos (by omega), if_pos (by omega)] at this
            simpa [e] using this
          · rfl
      · have e : (ys.map encRule).getD k [] = encRule ys[k] := by
          rw [List.getD_eq_getElem?_getD, List.getElem?_map, List.getElem?_eq_getElem (by omega)]; rfl
        rw [e]
        have e2 : encRule x ++ List.drop (encRule x).length (encRule ys[k]) = encRule x := by simp [encRule]
        rw [e2, ← List.map_set]
        simp only [mvcgen_simp, method_specs_simp, seval]
    · simp only [decide_eq_false_iff_not, Bool.not_true, Int.ofNat_lt] at h
      have hkk : k = xs.length := by omega
      subst hkk
      have e : ys = xs := by
        rw [List.take_of_length_le (by omega), List.take_of_length_le (Nat.le_refl _)] at hr
        exact hr
      subst e
      rw [← hy]
      simp [← List.map_take, method_specs_simp]
end
end Go.Proofs.Ytkdaijcdddomjaa
