/- Rules: marks, and what is held against them. No conditions but bounds of numbers and lengths. -/
import Derived.Test.YtkdaijcdddomjaaK5
namespace Go.Proofs.Ytkdaijcdddomjaa
open Go.Pm
set_option maxRecDepth 10000
set_option linter.unusedSimpArgs false
set_option linter.unusedVariables false
/-- The n marks from k on. -/
def mRule (k : Int) : Rule := ⟨k, k + 1, mText (k + 2), k + 3⟩
def mRules : Int → Nat → List Rule
  | _, 0 => []
  | k, n + 1 => mRule k :: mRules (k + 4) n
@[method_specs_simp] theorem mRules_length : ∀ (n : Nat) (k : Int), (mRules k n).length = n
  | 0, k => rfl
  | n + 1, k => by simp [mRules, mRules_length n]
theorem mRules_succ : ∀ (n : Nat) (k : Int), mRules k (n + 1) = mRules k n ++ [mRule (k + 4 * n)]
  | 0, k => by simp [mRules]
  | n + 1, k => by
    rw [mRules, mRules_succ n, mRules, List.cons_append]
    congr 3
    have : ((n + 1 : Nat) : Int) = n + 1 := rfl
    rw [this]
    congr 1
    omega
theorem mRules_get : ∀ (n : Nat) (k : Int) (i : Nat), i < n → (mRules k n)[i]? = some (mRule (k + 4 * i))
  | n + 1, k, 0, h => by simp [mRules]
  | n + 1, k, i + 1, h => by
    simp only [mRules, List.getElem?_cons_succ]
    rw [mRules_get n _ i (by omega)]
    congr 2; omega
@[method_specs_simp] theorem take_mRules {k : Int} {n : Nat} : List.take n ((mRules k n).map encRule) = (mRules k n).map encRule := List.take_of_length_le (by simp [mRules_length])
theorem flat_rules (xs : List Rule) : Flatss (xs.map encRule) := by
  induction xs with
  | nil => trivial
  | cons x xs ih => exact ⟨⟨trivial, trivial, trivial, trivial, trivial⟩, ih⟩
section
variable {P : Program} [Is P]
theorem n113 (xs : List Rule) (k : Int) (h0 : 0 ≤ k) (h1 : k < 2 ^ 50) (hx : xs.length < 2 ^ 50) : LCon P 113 [.ar 0 0 xs.length, .int .i64 k] [.arr true 4 (xs.map encRule)] (.int .i64 (k + 4 * xs.length)) [.arr true 4 ((mRules k xs.length).map encRule)] := by
  refine LCon.of (n := 42) (rs := [.tmp 4]) (Is.fn Try.func113) rfl (Is.call Try.call113) Try.results113 Try.ntmps113 ?_
  simp (maxSteps := 4000000) only [method_specs_simp, seval]
  refine SW.while (A := Nat × List Rule) (fun a => ⟨pad 42 [.ar 0 0 xs.length, .int .i64 (k + 4 * a.1), .junk, .junk, .junk, .int .i64 a.1], [.arr true 4 (a.2.map encRule)], [.ar 0 0 xs.length, .eptr 0 1 0]⟩) (fun a => xs.length - a.1)
      (fun a => a.1 ≤ xs.length ∧ a.2.length = xs.length ∧ a.2.take a.1 = mRules k a.1) (0, xs) [0] ⟨Nat.zero_le _, rfl, rfl⟩ ?_ ?_
  · rw [show k + 4 * ((0 : Nat) : Int) = k by omega]
    simp only [mvcgen_simp, method_specs_simp, seval]
  · rintro ⟨i, ys⟩ ⟨hk, hy, hr⟩
    simp only at hk hy hr
    refine CW.sound ?_
    simp (maxSteps := 4000000) only [method_specs_simp, seval]
    refine gB_split (fun h => ?_) (fun h => ?_)
    · simp only [decide_eq_true_eq, Int.ofNat_lt] at h
      have hl : i < (ys.map encRule).length := by simp; omega
      obtain ⟨y, hyi⟩ : ∃ y, ys[i]? = some y := ⟨ys[i], List.getElem?_eq_getElem (by omega)⟩
      have eg : (ys.map encRule).getD i [] = encRule y := by rw [List.getD_eq_getElem?_getD, List.getElem?_map, hyi]; rfl
      have e1 : IntKind.i64.wrap (k + 4 * i + 1) = k + 4 * i + 1 := wrap_id (by omega) (by omega)
      have e2 : IntKind.i64.wrap (k + 4 * i + 1 + 1) = k + 4 * i + 2 := by rw [wrap_id (by omega) (by omega)]; omega
      have e3 : IntKind.i64.wrap (k + 4 * i + 2 + 1) = k + 4 * i + 3 := by rw [wrap_id (by omega) (by omega)]; omega
      have e5 : IntKind.i64.wrap (k + 4 * i + 3 + 1) = k + 4 * ((i + 1 : Nat) : Int) := by rw [wrap_id (by omega) (by omega)]; omega
      have e4 : IntKind.i64.wrap ((i : Int) + 1) = ((i + 1 : Nat) : Int) := by rw [wrap_id (by omega) (by omega)]; rfl
      simp only [e1, e2, eg, encRule, List.set_set, getD_set' hl, method_specs_simp, seval]
      refine ⟨by omega, by omega, by omega, by omega, by omega, by simp; omega, ?_⟩
      refine clY.con (c147 _ (by omega)) (by simp only [method_specs_simp]) ?_
      simp only [method_specs_simp, seval, List.set_set, getD_set' hl, eg, encRule, e1, e2, e3, e4, e5]
      refine ⟨by omega, by omega, by simp; omega, by omega, by omega, by simp; omega, ?_⟩
      refine Again.mk (i + 1, ys.set i (mRule (k + 4 * i))) [0] ⟨h, by simpa using hy, ?_⟩ (Nat.sub_lt_sub_left h (Nat.lt_succ_self _)) ?_
      · simp only
        rw [take_set' (by omega), hr, mRules_succ]
      · have e : [V.int IntKind.i64 (k + 4 * (i : Int)), V.int IntKind.i64 (k + 4 * (i : Int) + 1), V.str (mText (k + 4 * (i : Int) + 2)), V.int IntKind.i64 (k + 4 * (i : Int) + 3)] = encRule (mRule (k + 4 * i)) := rfl
        rw [e, ← List.map_set]
        simp only [mvcgen_simp, method_specs_simp, seval]
    · simp only [decide_eq_false_iff_not, Bool.not_true, Int.ofNat_lt] at h
      have hi : i = xs.length := by omega
      subst hi
      have e : ys = mRules k xs.length := by rw [← hr, List.take_of_length_le (by omega)]
      subst e
      refine LResY.mk [0] ?_
      simp only [mvcgen_simp, method_specs_simp, seval]
theorem c114 (k : Int) (n : Nat) (h0 : 0 ≤ k) (h1 : k < 2 ^ 40) (hx : n < 2 ^ 40) : Con P 114 [.sl 4 ((mRules k n).map encRule), .int .i64 k] (.int .i64 (k + 4 * n)) := by
  refine Con.of (n := 50) (rs := [.tmp 4]) (Is.fn Try.func114) rfl (Is.call Try.call114) Try.results114 Try.ntmps114 trivial ?_
  simp (maxSteps := 4000000) only [method_specs_simp, seval, mRules_length]
  refine SW.while (A := Nat) (fun i => ⟨pad 50 [.sl 4 ((mRules k n).map encRule), .int .i64 (k + 4 * i), .junk, .junk, .junk, .int .i64 i], [], []⟩) (fun i => n - i) (fun i => i ≤ n) 0 [] (Nat.zero_le _) ?_ ?_
  · rw [show k + 4 * ((0 : Nat) : Int) = k by omega]
    simp only [mvcgen_simp, method_specs_simp, seval]
  · intro i hi
    refine CW.sound ?_
    simp (maxSteps := 4000000) only [method_specs_simp, seval, mRules_length]
    refine gB_split (fun h => ?_) (fun h => ?_)
    · simp only [decide_eq_true_eq, Int.ofNat_lt] at h
      have hg := mRules_get n k i h
      have e1 : IntKind.i64.wrap (k + 4 * i + 1) = k + 4 * i + 1 := wrap_id (by omega) (by omega)
      have e2 : IntKind.i64.wrap (k + 4 * i + 1 + 1) = k + 4 * i + 2 := by rw [wrap_id (by omega) (by omega)]; omega
      have e3 : IntKind.i64.wrap (k + 4 * i + 2 + 1) = k + 4 * i + 3 := by rw [wrap_id (by omega) (by omega)]; omega
      have e7 : IntKind.i64.wrap (k + 4 * i + 3 + 1) = k + 4 * ((i + 1 : Nat) : Int) := by rw [wrap_id (by omega) (by omega)]; omega
      have e4 : IntKind.i64.wrap ((i : Int) + 1) = ((i + 1 : Nat) : Int) := by rw [wrap_id (by omega) (by omega)]; rfl
      have e5 : ∀ a : Int, (a != a) = false := fun a => by simp
      have e6 : ∀ a : ByteArray, (a.toList == a.toList) = true := fun a => by simp
      simp (maxSteps := 4000000) only [hg, encRule, mRule, e1, e2, e5, method_specs_simp, seval]
      refine ⟨by omega, by omega, by omega, by omega, by kernel_rfl, by omega, by omega, ?_⟩
      refine clY.con (c147 _ (by omega)) (by simp only [method_specs_simp]) ?_
      simp (maxSteps := 4000000) only [hg, encRule, mRule, e1, e2, e3, e4, e5, e6, e7, method_specs_simp, seval]
      refine ⟨by omega, by omega, ?_⟩
      refine Again.mk (i + 1) [] h (Nat.sub_lt_sub_left h (Nat.lt_succ_self _)) ?_
      simp only [mvcgen_simp, method_specs_simp, seval]
    · simp only [decide_eq_false_iff_not, Bool.not_true, Int.ofNat_lt] at h
      rw [show i = n by omega]
theorem n49 (c k : Int) (xs : List Rule) (h0 : 0 ≤ k) (h1 : k < 2 ^ 50) (hx : xs.length < 2 ^ 50) : LCon P 49 [.agg [.ar 0 0 xs.length, .int .i64 c], .int .i64 k] [.arr true 4 (xs.map encRule)] (.int .i64 (k + 4 * xs.length)) [.arr true 4 ((mRules k xs.length).map encRule)] := by
  refine LCon.of (n := 10) (rs := [.tmp 4]) (Is.fn Try.func49) rfl (Is.call Try.call49) Try.results49 Try.ntmps49 ?_
  simp (maxSteps := 4000000) only [method_specs_simp, seval]
  refine clY.live [0] [] (n113 xs k h0 h1 hx) ?_ (Nat.le_refl _) ?_
  · simp only [mvcgen_simp, method_specs_simp, seval]
  · simp (maxSteps := 4000000) only [method_specs_simp, seval]
    refine LResY.mk [0] ?_
    simp only [mvcgen_simp, method_specs_simp, seval, mRules_length]
theorem c50 (c k : Int) (n : Nat) (h0 : 0 ≤ k) (h1 : k < 2 ^ 40) (hx : n < 2 ^ 40) : Con P 50 [.agg [.sl 4 ((mRules k n).map encRule), .int .i64 c], .int .i64 k] (.int .i64 (k + 4 * n)) := by
  refine Con.of (n := 12) (rs := [.tmp 4]) (Is.fn Try.func50) rfl (Is.call Try.call50) Try.results50 Try.ntmps50 trivial ?_
  simp (maxSteps := 4000000) only [method_specs_simp, seval]
  refine clY.con (c114 k n h0 h1 hx) (by simp only [method_specs_simp]) ?_
  simp (maxSteps := 4000000) only [method_specs_simp, seval]
  refine gB_split (fun h => ?_) (fun h => ?_)
  · simp only [decide_eq_true_eq] at h; omega
  · trivial
theorem c48 (c : Int) (xs : List Rule) (hx : xs.length < 2 ^ 62) : Con P 48 [.agg [.sl 4 (xs.map encRule), .int .i64 c], .agg [.sl 4 (xs.map encRule), .int .i64 c]] (.bool true) := by
  have e5 : ∀ a : Int, (a != a) = false := fun a => by simp
  refine Con.of (n := 16) (rs := [.tmp 4]) (Is.fn Try.func48) rfl (Is.call Try.call48) Try.results48 Try.ntmps48 trivial ?_
  simp (maxSteps := 4000000) only [method_specs_simp, seval]
  refine clY.con (c24 xs xs hx) (by simp only [method_specs_simp]) ?_
  simp (maxSteps := 4000000) only [method_specs_simp, seval, e5, eqRuleS_same]
theorem c113m (k : Int) : Con P 113 [.nil, .int .i64 k] (.int .i64 k) := by
  have h : Con P 113 [.sl 4 [], .int .i64 k] (.int .i64 k) := by
    refine Con.of (n := 42) (rs := [.tmp 4]) (Is.fn Try.func113) rfl (Is.call Try.call113) Try.results113 Try.ntmps113 trivial ?_
    simp (maxSteps := 4000000) only [method_specs_simp, seval]
    refine SW.while (A := Unit) (fun _ => ⟨pad 42 [.sl 4 [], .int .i64 k, .junk, .junk, .junk, .int .i64 0], [], []⟩) (fun _ => 0) (fun _ => True) () [] trivial ?_ ?_
    · simp only [mvcgen_simp, method_specs_simp, seval]
    · intro _ _
      refine CW.sound ?_
      simp (maxSteps := 4000000) only [method_specs_simp, seval]
  exact h.weak (VLes.cons (VLe.nil 4) (VLes.same VLes.nil))
theorem c49m (c k : Int) : Con P 49 [.agg [.nil, .int .i64 c], .int .i64 k] (.int .i64 k) := by
  refine Con.of (n := 10) (rs := [.tmp 4]) (Is.fn Try.func49) rfl (Is.call Try.call49) Try.results49 Try.ntmps49 trivial ?_
  simp (maxSteps := 4000000) only [method_specs_simp, seval]
  refine clY.con (c113m k) (by simp only [method_specs_simp]) ?_
  simp (maxSteps := 4000000) only [method_specs_simp, seval]
theorem c50m (c k : Int) (h0 : 0 ≤ k) (h1 : k < 2 ^ 40) : Con P 50 [.agg [.nil, .int .i64 c], .int .i64 k] (.int .i64 k) := by
  have := c50 (P := P) c k 0 h0 h1 (by omega)
  rw [show k + 4 * ((0 : Nat) : Int) = k by omega] at this
  exact this.weak (VLes.cons (VLe.agg (VLes.cons (VLe.nil 4) (VLes.same VLes.nil))) (VLes.same VLes.nil))
theorem c48m (c : Int) : Con P 48 [.agg [.nil, .int .i64 c], .agg [.nil, .int .i64 c]] (.bool true) := by
  have := c48 (P := P) c [] (by decide)
  have h : VLe (.agg [.nil, .int .i64 c]) (.agg [.sl 4 [], .int .i64 c]) := VLe.agg (VLes.cons (VLe.nil 4) (VLes.same VLes.nil))
  exact this.weak (VLes.cons h (VLes.cons h VLes.nil))
theorem c46s (t : ByteArray) (ht : 8000 < t.size) : Con P 46 [.str t] (.agg [.nil, .int .i64 2]) := by
  have h1 : decide ((t.size : Int) > 8000) = true := by simp; omega
  refine Con.of (n := 67) (rs := [.cell 2 65]) (Is.fn Try.func46) rfl (Is.call Try.call46) Try.results46 Try.ntmps46 (by simp only [method_specs_simp]) ?_
  simp (maxSteps := 4000000) only [method_specs_simp, seval, h1]
theorem c47s (t : ByteArray) (ht : 8000 < t.size) : Con P 47 [.str t] (.agg [.nil, .int .i64 2]) := by
  have h1 : decide ((t.size : Int) > 8000) = true := by simp; omega
  refine Con.of (n := 62) (rs := [.cell 2 65]) (Is.fn Try.func47) rfl (Is.call Try.call47) Try.results47 Try.ntmps47 (by simp only [method_specs_simp]) ?_
  simp (maxSteps := 4000000) only [method_specs_simp, seval, h1]
end
/-! both read the same -/
def Sy (s s' : Rd) : Prop := s.bad = s'.bad ∧ (s.bad = false → s.pos = s'.pos)
theorem num_sync (t : ByteArray) {s s' : Rd} (h : Sy s s') : Sy (sNum t s).2 (iNum t s').2 ∧ ((sNum t s).2.bad = false → s.bad = false ∧ (sNum t s).1 = (iNum t s').1) := by
  obtain ⟨h1, h2⟩ := h
  unfold sNum iNum
  cases hb : s.bad with
  | true =>
    rw [if_pos (.inl rfl), ← h1, hb]
    exact ⟨⟨rfl, fun h => by cases h⟩, fun h => by cases h⟩
  | false =>
    rw [← h1, hb, ← h2 hb]
    by_cases hc : (getN t s.pos).code = 0
    · rw [if_neg (by simp [hc])]
      exact ⟨⟨by simp [hc], fun _ => rfl⟩, fun _ => ⟨rfl, rfl⟩⟩
    · rw [if_pos (.inr hc)]
      exact ⟨⟨by simp [hc], fun h => by cases h⟩, fun h => by cases h⟩
theorem text_sync (t : ByteArray) {s s' : Rd} (h : Sy s s') : Sy (sText t s).2 (iText t s').2 ∧ ((sText t s).2.bad = false → s.bad = false ∧ (sText t s).1 = (iText t s').1) := by
  obtain ⟨h1, h2⟩ := h
  unfold sText iText
  cases hb : s.bad with
  | true =>
    rw [if_pos (.inl rfl), ← h1, hb]
    exact ⟨⟨rfl, fun h => by cases h⟩, fun h => by cases h⟩
  | false =>
    rw [← h1, hb, ← h2 hb]
    by_cases hc : (getT t s.pos).code = 0
    · rw [if_neg (by simp [hc])]
      exact ⟨⟨by simp [hc], fun _ => rfl⟩, fun _ => ⟨rfl, rfl⟩⟩
    · rw [if_pos (.inr hc)]
      exact ⟨⟨by simp [hc], fun h => by cases h⟩, fun h => by cases h⟩
theorem rule_sync (t : ByteArray) {s s' : Rd} (h : Sy s s') : Sy (rdRule (sNum t) (sText t) s).2 (rdRule (iNum t) (iText t) s').2 ∧ ((rdRule (sNum t) (sText t) s).2.bad = false → s.bad = false ∧ (rdRule (sNum t) (sText t) s).1 = (rdRule (iNum t) (iText t) s').1) := by
  have a1 := num_sync t h
  have a2 := num_sync t a1.1
  have a3 := num_sync t a2.1
  have a4 := text_sync t a3.1
  refine ⟨a4.1, fun hb => ?_⟩
  have b4 := a4.2 hb
  have b3 := a3.2 b4.1
  have b2 := a2.2 b3.1
  have b1 := a1.2 b2.1
  refine ⟨b1.1, ?_⟩
  simp only [rdRule]
  rw [b1.2, b2.2, b3.2, b4.2]
theorem go_sync (t : ByteArray) : ∀ (f : Nat) (n n' : Int) (s s' : Rd) (l l' : List Rule), Sy s s' → (s.bad = false → n = n' ∧ l = l') →
    (rdGo (sNum t) (sText t) f n s l).2.bad = (rdGo (iNum t) (iText t) f n' s' l').2.bad ∧ ((rdGo (sNum t) (sText t) f n s l).2.bad = false → s.bad = false ∧ (rdGo (sNum t) (sText t) f n s l).1 = (rdGo (iNum t) (iText t) f n' s' l').1)
  | 0, n, n', s, s', l, l', h, hl => ⟨h.1, fun hb => ⟨hb, (hl hb).2⟩⟩
  | f + 1, n, n', s, s', l, l', h, hl => by
    cases hb : s.bad with
    | true =>
      have hb' : s'.bad = true := by rw [← h.1, hb]
      unfold rdGo
      rw [if_pos (.inr hb), if_pos (.inr hb')]
      exact ⟨h.1, fun q => by rw [hb] at q; cases q⟩
    | false =>
      have hb' : s'.bad = false := by rw [← h.1, hb]
      obtain ⟨rfl, rfl⟩ := hl hb
      unfold rdGo
      by_cases hn : n ≤ 0
      · rw [if_pos (.inl hn), if_pos (.inl hn)]
        exact ⟨h.1, fun q => ⟨rfl, rfl⟩⟩
      · rw [if_neg (by simp [hn, hb]), if_neg (by simp [hn, hb'])]
        have a := rule_sync t h
        have b := go_sync t f (n - 1) (n - 1) _ _ (l ++ [(rdRule (sNum t) (sText t) s).1]) (l ++ [(rdRule (iNum t) (iText t) s').1]) a.1 (fun q => ⟨rfl, by rw [(a.2 q).2]⟩)
        exact ⟨b.1, fun q => ⟨rfl, (b.2 q).2⟩⟩
theorem read_sync (t : ByteArray) : (sRead t).2.bad = (iRead t).2.bad ∧ ((sRead t).2.bad = false → (sNum t ⟨0, false⟩).2.bad = false ∧ (sRead t).1 = (iRead t).1) := by
  have a := num_sync t (s := ⟨0, false⟩) (s' := ⟨0, false⟩) ⟨rfl, fun _ => rfl⟩
  exact go_sync t 21 _ _ _ _ [] [] a.1 fun q => ⟨(a.2 q).2, rfl⟩
theorem toList_size {t : ByteArray} (h : t.toList = []) : t.size = 0 := by
  refine (emptyB_iff t).1 ?_
  unfold emptyB
  rw [h]
  simp
theorem empty_bad {t : ByteArray} (h : t.toList = []) : (sNum t ⟨0, false⟩).2.bad = true := by
  have hs := toList_size h
  have : getN t 0 = ⟨0, 0, 4⟩ := by
    unfold getN gnGo
    rw [if_pos (by omega)]
  unfold sNum
  simp only [this]
  rfl
theorem okSI (t : ByteArray) : okS t = okI t := by
  have a := read_sync t
  unfold okS okI
  rw [← a.1]
  cases hb : (sRead t).2.bad with
  | true => simp
  | false =>
    have b := a.2 hb
    rw [b.2]
    have : (t.toList == []) = false := by
      cases hq : t.toList == []
      · rfl
      · have := empty_bad (eq_of_beq hq)
        rw [b.1] at this; cases this
    rw [this]
    rfl
theorem list_same {t : ByteArray} (h : okI t = true) : (sRead t).1 = (iRead t).1 := by
  have a := read_sync t
  refine (a.2 ?_).2
  rw [a.1]
  unfold okI at h
  simp only [Bool.and_eq_true, Bool.not_eq_true'] at h
  exact h.1
theorem rdGo_len (num : Rd → Int × Rd) (txt : Rd → ByteArray × Rd) : ∀ (f : Nat) (n : Int) (s : Rd) (l : List Rule), (rdGo num txt f n s l).1.length ≤ l.length + f
  | 0, n, s, l => by simp [rdGo]
  | f + 1, n, s, l => by
    unfold rdGo
    split
    · simp only; omega
    · have := rdGo_len num txt f (n - 1) (rdRule num txt s).2 (l ++ [(rdRule num txt s).1])
      simp only [List.length_append, List.length_singleton] at this
      omega
theorem iRead_len (t : ByteArray) : (iRead t).1.length ≤ 21 := by
  have := rdGo_len (iNum t) (iText t) 21 (iNum t ⟨0, false⟩).1 (iNum t ⟨0, false⟩).2 []
  rwa [List.length_nil, Nat.zero_add] at this
end Go.Proofs.Ytkdaijcdddomjaa
