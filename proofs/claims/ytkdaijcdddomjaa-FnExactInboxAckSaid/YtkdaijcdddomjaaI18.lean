/- InboxAck of the reference and of the program. No conditions but lengths and bounds of numbers. -/
import Derived.Test.YtkdaijcdddomjaaI13
namespace Go.Proofs.Ytkdaijcdddomjaa
open Go.Pm
set_option maxRecDepth 10000
set_option linter.unusedSimpArgs false
/-- Whether a note is acknowledged. -/
def goneB (num : Int) (x : Note) : Bool := decide (x.num ≤ num)
/-- The first note, from i on, that is acknowledged. -/
def firstGone (num : Int) : List Note → Nat → Option Nat
  | [], _ => none
  | x :: xs, i => if goneB num x then some i else firstGone num xs (i + 1)
def idxOf : Option Nat → Int
  | some i => i
  | none => -1
def keepB (num : Int) (x : Note) : Bool := !goneB num x
theorem firstGone_none (num : Int) : ∀ (xs : List Note) (k : Nat), firstGone num xs k = none → xs.filter (keepB num) = xs
  | [], k, _ => rfl
  | x :: xs, k, h => by
    unfold firstGone at h
    split at h
    · cases h
    · rename_i hx
      rw [List.filter_cons_of_pos (by simp [keepB, hx]), firstGone_none num xs (k + 1) h]
theorem firstGone_some (num : Int) : ∀ (xs : List Note) (k i : Nat), firstGone num xs k = some i → ∃ a x b, xs = a ++ x :: b ∧ i = k + a.length ∧ a.filter (keepB num) = a ∧ goneB num x = true
  | [], k, i, h => by cases h
  | x :: xs, k, i, h => by
    unfold firstGone at h
    split at h
    · rename_i hx
      simp only [Option.some.injEq] at h
      exact ⟨[], x, xs, rfl, by simp [h], rfl, hx⟩
    · rename_i hx
      obtain ⟨a, y, b, h1, h2, h3, h4⟩ := firstGone_some num xs (k + 1) i h
      refine ⟨x :: a, y, b, by rw [h1]; rfl, by rw [h2]; simp; omega, ?_, h4⟩
      rw [List.filter_cons_of_pos (by simp [keepB, hx]), h3]
def note0 : Note := ⟨0, 0, ByteArray.empty⟩
def kept (num : Int) (xs : List Note) : List Note := xs.filter (keepB num)
theorem kept_le (num : Int) (xs : List Note) : (kept num xs).length ≤ xs.length := List.length_filter_le _ _
theorem kept_snoc (num : Int) (xs : List Note) (x : Note) : kept num (xs ++ [x]) = kept num xs ++ (if keepB num x then [x] else []) := by
  unfold kept
  rw [List.filter_append]
  congr 1
  by_cases h : keepB num x = true
  · rw [List.filter_cons_of_pos h, if_pos h]; rfl
  · rw [List.filter_cons_of_neg h, if_neg h]; rfl
section
variable {P : Program} [Is P]
theorem c103 (num : Int) (x : Note) : Con P 103 [.agg (encNote x), .fptr [.int .i64 num] 0] (.bool (goneB num x)) := by
  refine Con.of (n := 8) (rs := [.tmp 3]) (Is.fn Try.func103) rfl (Is.call Try.call103) Try.results103 Try.ntmps103 trivial ?_
  simp (maxSteps := 4000000) only [method_specs_simp, seval, encNote]
  rfl
theorem c148 (num : Int) (xs : List Note) (hx : xs.length < 2 ^ 62) : Con P 148 [.sl 3 (xs.map encNote), .fn 103 [] [.fptr [.int .i64 num] 0]] (.int .i64 (idxOf (firstGone num xs 0))) := by
  refine Con.of (n := 19) (rs := [.tmp 4]) (Is.fn Try.func148) rfl (Is.call Try.call148) Try.results148 Try.ntmps148 trivial ?_
  simp (maxSteps := 4000000) only [method_specs_simp, seval]
  refine SW.while (A := Nat) (fun i => ⟨pad 19 [.sl 3 (xs.map encNote), .fn 103 [] [.fptr [.int .i64 num] 0], .junk, .junk, .int .i64 0, .junk, .sl 3 (xs.map encNote), .int .i64 xs.length, .int .i64 i], [], []⟩)
    (fun i => xs.length - i) (fun i => i ≤ xs.length ∧ firstGone num xs 0 = firstGone num (xs.drop i) i) 0 [] ⟨Nat.zero_le _, rfl⟩ ?_ ?_
  · simp only [mvcgen_simp, method_specs_simp, seval]
  · rintro i ⟨hi, hr⟩
    refine CW.sound ?_
    simp (maxSteps := 4000000) only [method_specs_simp, seval]
    refine gB_split (fun h => ?_) (fun h => ?_)
    · simp only [decide_eq_true_eq, Int.ofNat_lt] at h
      have hxk : xs[i]? = some xs[i] := List.getElem?_eq_getElem h
      generalize xs[i] = x at hxk
      simp (maxSteps := 4000000) only [hxk, method_specs_simp, seval]
      refine ⟨by omega, by omega, by simp [encNote], ?_⟩
      have e : List.take 3 (encNote x) = encNote x := rfl
      rw [e]
      refine clY.conC (c103 num x) (by simp only [method_specs_simp]) (by simp only [method_specs_simp, encNote]) ?_
      simp (maxSteps := 4000000) only [method_specs_simp, seval]
      rw [drop_cons hxk, firstGone] at hr
      refine gB_split (fun h2 => ?_) (fun h2 => ?_)
      · rw [hr, h2]; rfl
      · simp only [Bool.not_true] at h2
        rw [h2] at hr
        rw [wrap_id (by omega) (by omega)]
        refine Again.mk (i + 1) [] ⟨h, by rw [hr]; rfl⟩ (Nat.sub_lt_sub_left h (Nat.lt_succ_self _)) ?_
        simp only [mvcgen_simp, method_specs_simp, seval]
    · simp only [decide_eq_false_iff_not, Bool.not_true, Int.ofNat_lt] at h
      rw [hr, List.drop_eq_nil_of_le (by omega)]; rfl
theorem n102 (num : Int) (xs : List Note) (hx : xs.length < 2 ^ 40) : LCon P 102 [.ar 0 0 xs.length, .fn 103 [] [.fptr [.int .i64 num] 0]] [.arr true 3 (xs.map encNote)] (.ar 0 0 (kept num xs).length)
    [.arr true 3 ((kept num xs ++ List.replicate (xs.length - (kept num xs).length) note0).map encNote)] := by
  refine LCon.of (n := 42) (rs := [.tmp 4]) (Is.fn Try.func102) rfl (Is.call Try.call102) Try.results102 Try.ntmps102 ?_
  simp (maxSteps := 4000000) only [method_specs_simp, seval]
  refine clY.conF (c148 num xs (by omega)) (by simp only [method_specs_simp]) (by simp only [method_specs_simp]) trivial ?_
  simp (maxSteps := 4000000) only [method_specs_simp, seval]
  cases hg : firstGone num xs 0 with
  | none =>
    have e : kept num xs = xs := firstGone_none num xs 0 hg
    rw [e]
    simp (maxSteps := 4000000) only [method_specs_simp, seval, idxOf]
    refine LResY.mk [0] ?_
    simp only [mvcgen_simp, method_specs_simp, seval, Nat.sub_self]
  | some i0 =>
    obtain ⟨a, x0, b, hab, hi0, ha, hx0⟩ := firstGone_some num xs 0 i0 hg
    rw [Nat.zero_add] at hi0
    have hne : ((i0 : Int) == -1) = false := by rw [beq_eq_false_iff_ne]; omega
    have hlen : xs.length = a.length + 1 + b.length := by rw [hab]; simp; omega
    simp (maxSteps := 4000000) only [method_specs_simp, seval, idxOf, hne]
    have htk : xs.take (i0 + 1) = a ++ [x0] := by
      rw [hab, hi0, List.take_append, List.take_of_length_le (by omega)]
      simp
    have hk0 : kept num (xs.take (i0 + 1)) = a := by
      rw [htk, kept_snoc, kept, ha, if_neg (by simp [keepB, hx0]), List.append_nil]
    rw [wrap_id (by omega) (by omega)]
    refine SW.while (A := Nat × List Note) (fun p => ⟨pad 42 [.ar 0 0 xs.length, .fn 103 [] [.fptr [.int .i64 num] 0], .junk, .junk, .nil, .int .i64 (kept num (xs.take p.1)).length, .int .i64 p.1], [.arr true 3 (p.2.map encNote)], [.ar 0 0 xs.length, .eptr 0 1 0]⟩)
      (fun p => xs.length - p.1) (fun p => p.1 ≤ xs.length ∧ (kept num (xs.take p.1)).length < p.1 ∧ p.2.length = xs.length ∧ p.2.take (kept num (xs.take p.1)).length = kept num (xs.take p.1) ∧ p.2.drop p.1 = xs.drop p.1) (i0 + 1, xs) [0] ?_ ?_ ?_
    · rw [hk0]
      refine ⟨by omega, by omega, rfl, ?_, rfl⟩
      rw [hab, List.take_append, List.take_of_length_le (Nat.le_refl _)]
      simp
    · rw [hk0, ← hi0]
      simp only [mvcgen_simp, method_specs_simp, seval]
    · rintro ⟨j, ys⟩ ⟨hj, hlt, hy, h1, h2⟩
      simp only at hj hlt hy h1 h2
      refine CW.sound ?_
      simp (maxSteps := 4000000) only [method_specs_simp, seval]
      refine gB_split (fun h => ?_) (fun h => ?_)
      · simp only [decide_eq_true_eq, Int.ofNat_lt] at h
        have hxk : xs[j]? = some xs[j] := List.getElem?_eq_getElem h
        generalize xs[j] = x at hxk
        have hyk : ys[j]? = some x := by
          have := congrArg (fun l => l[0]?) h2
          simp only [List.getElem?_drop, Nat.add_zero] at this
          rw [this]; exact hxk
        simp (maxSteps := 4000000) only [hyk, method_specs_simp, seval]
        have hks : kept num (xs.take (j + 1)) = kept num (xs.take j) ++ (if keepB num x then [x] else []) := by rw [take_s hxk, kept_snoc]
        have hd2 : ys.drop (j + 1) = xs.drop (j + 1) := by
          have := congrArg (List.drop 1) h2
          rwa [List.drop_drop, List.drop_drop] at this
        generalize hcj : kept num (xs.take j) = c at *
        simp (maxSteps := 4000000) only [method_specs_simp, seval, encNote, oneV]
        refine ⟨by omega, by omega, ?_⟩
        refine clY.conC (c103 num x) (by simp only [method_specs_simp, encNote]) (by simp only [method_specs_simp, encNote]) ?_
        simp (maxSteps := 4000000) only [method_specs_simp, seval]
        have wj : IntKind.i64.wrap ((j : Int) + 1) = (j : Int) + 1 := wrap_id (by omega) (by omega)
        have wc : IntKind.i64.wrap ((c.length : Int) + 1) = (c.length : Int) + 1 := wrap_id (by omega) (by omega)
        rw [wj, wc]
        refine gB_split (fun h3 => ?_) (fun h3 => ?_)
        · have hkp : keepB num x = true := h3
          rw [if_pos hkp] at hks
          have eg : (ys.map encNote).getD c.length [] = encNote (ys[c.length]'(by omega)) := by
            rw [List.getD_eq_getElem?_getD, List.getElem?_map, List.getElem?_eq_getElem (by omega)]; rfl
          simp (maxSteps := 4000000) only [method_specs_simp, seval, encNote, oneV, eg]
          refine ⟨by omega, by omega, by omega, ?_⟩
          refine Again.mk (j + 1, ys.set c.length x) [0] ⟨h, by rw [hks]; simp; omega, by simpa using hy, ?_, ?_⟩ (Nat.sub_lt_sub_left h (Nat.lt_succ_self _)) ?_
          · rw [hks, List.length_append, List.length_singleton, take_set' (by omega), h1]
          · rw [List.drop_set_of_lt (by omega)]; exact hd2
          · have e : [V.int IntKind.i64 x.num, V.int IntKind.i64 x.frm, V.str x.text] = encNote x := rfl
            rw [hks, e, ← List.map_set]
            simp only [mvcgen_simp, method_specs_simp, seval]
        · have hkp : keepB num x = false := by simpa [keepB] using h3
          rw [if_neg (by simp [hkp]), List.append_nil] at hks
          refine Again.mk (j + 1, ys) [0] ⟨h, by rw [hks]; omega, hy, by rw [hks]; exact h1, hd2⟩ (Nat.sub_lt_sub_left h (Nat.lt_succ_self _)) ?_
          rw [hks]
          simp only [mvcgen_simp, method_specs_simp, seval]
      · simp only [decide_eq_false_iff_not, Bool.not_true, Int.ofNat_lt] at h
        have hje : j = xs.length := by omega
        subst hje
        rw [List.take_of_length_le (Nat.le_refl _)] at h1 ⊢
        have hkl := kept_le num xs
        refine ⟨by omega, by omega, by omega, by omega, by omega, ?_⟩
        have e : List.take (kept num xs).length (List.map encNote ys) ++ List.replicate (xs.length - (kept num xs).length) [V.int IntKind.i64 0, V.int IntKind.i64 0, V.str ByteArray.empty] ++ List.drop ((kept num xs).length + (xs.length - (kept num xs).length)) (List.map encNote ys) = List.map encNote (kept num xs ++ List.replicate (xs.length - (kept num xs).length) note0) := by
          rw [← List.map_take, h1, List.drop_eq_nil_of_le (by simp; omega), List.append_nil, List.map_append, List.map_replicate]
          rfl
        rw [e, Nat.sub_zero]
        refine LResY.mk [0] ?_
        simp only [mvcgen_simp, method_specs_simp, seval]
end
end Go.Proofs.Ytkdaijcdddomjaa
