/- RulesRead of the reference and of the program. No conditions but bounds of sizes. -/
import Derived.Test.YtkdaijcdddomjaaK3
import Derived.Test.YtkdaijcdddomjaaI10
namespace Go.Proofs.Ytkdaijcdddomjaa
open Go.Pm
set_option maxRecDepth 10000
set_option linter.unusedSimpArgs false
set_option linter.unusedVariables false
def rdRule (num : Rd → Int × Rd) (txt : Rd → ByteArray × Rd) (s : Rd) : Rule × Rd :=
  (⟨(num s).1, (num (num s).2).1, (txt (num (num (num s).2).2).2).1, (num (num (num s).2).2).1⟩, (txt (num (num (num s).2).2).2).2)
def rdGo (num : Rd → Int × Rd) (txt : Rd → ByteArray × Rd) : Nat → Int → Rd → List Rule → List Rule × Rd
  | 0, _, s, l => (l, s)
  | f + 1, n, s, l => if n ≤ 0 ∨ s.bad = true then (l, s) else rdGo num txt f (n - 1) (rdRule num txt s).2 (l ++ [(rdRule num txt s).1])
def sRead (t : ByteArray) : List Rule × Rd := rdGo (sNum t) (sText t) 21 (sNum t ⟨0, false⟩).1 (sNum t ⟨0, false⟩).2 []
def iRead (t : ByteArray) : List Rule × Rd := rdGo (iNum t) (iText t) 21 (iNum t ⟨0, false⟩).1 (iNum t ⟨0, false⟩).2 []
theorem sNum_pos {t : ByteArray} {s : Rd} (ht : t.size ≤ 8000) (h : s.pos ≤ 8000) : (sNum t s).2.pos ≤ 8000 := by
  have := getN_b t s.pos
  unfold sNum
  split
  · exact h
  · simp only; omega
theorem sText_pos {t : ByteArray} {s : Rd} (ht : t.size ≤ 8000) (h : s.pos ≤ 8000) : (sText t s).2.pos ≤ 8000 := by
  have := getT_b t s.pos
  unfold sText
  split
  · exact h
  · simp only; omega
theorem iNum_pos {t : ByteArray} {s : Rd} (ht : t.size ≤ 8000) : (iNum t s).2.pos ≤ 8000 := by
  have := getN_b t s.pos
  unfold iNum
  simp only; omega
theorem iText_pos {t : ByteArray} {s : Rd} (ht : t.size ≤ 8000) : (iText t s).2.pos ≤ 8000 := by
  have := getT_b t s.pos
  unfold iText
  simp only; omega
def rbytes (xs : List Rule) : ByteArray := if rulesOk xs = true then rulesB xs else ⟨#[]⟩
@[method_specs_simp] theorem encRd_refs (ok : Nat → Prop) (t : ByteArray) (s : Rd) : Refs ok (encRd t s) = True := eq_true ⟨trivial, trivial, trivial, trivial⟩
@[method_specs_simp] theorem encRd_rens (ρ : Nat → Nat) (t : ByteArray) (s : Rd) : rens ρ (encRd t s) = encRd t s := rfl
def okS (t : ByteArray) : Bool := !(sRead t).2.bad && (!(t.toList == []) && (rbytes (sRead t).1).toList == t.toList)
def okI (t : ByteArray) : Bool := !(iRead t).2.bad && (rbytes (iRead t).1).toList == t.toList
section
variable {P : Program} [Is P]
theorem c25b (xs : List Rule) (hx : xs.length < 2 ^ 62) : Con P 25 [.sl 4 (xs.map encRule)] (.str (rbytes xs)) := by
  unfold rbytes
  cases ok : rulesOk xs with
  | true => exact c25 xs ok
  | false => exact c25e xs hx ok
theorem c26b (xs : List Rule) (hx : xs.length < 2 ^ 62) : Con P 26 [.sl 4 (xs.map encRule)] (.str (rbytes xs)) := by
  unfold rbytes
  cases ok : rulesOk xs with
  | true => exact c26 xs ok
  | false => exact c26e xs hx ok
theorem c46 (t : ByteArray) (ht : t.size ≤ 8000) : Con P 46 [.str t] (if okS t = true then .agg [.sl 4 ((sRead t).1.map encRule), .int .i64 0] else .agg [.nil, .int .i64 3]) := by
  have h1 : decide ((t.size : Int) > 8000) = false := by simp; omega
  refine Con.of (n := 67) (rs := [.cell 2 65]) (Is.fn Try.func46) rfl (Is.call Try.call46) Try.results46 Try.ntmps46 ?_ ?_
  · split <;> simp only [method_specs_simp]
  simp (maxSteps := 4000000) only [method_specs_simp, seval, h1]
  have e0 : [V.str t, V.int .i64 0, V.bool false] = encRd t ⟨0, false⟩ := rfl
  rw [e0]
  refine clY.live [1] [] (n109 t ⟨0, false⟩ ht (by simp)) ?_ (Nat.le_refl _) ?_
  · simp only [mvcgen_simp, method_specs_simp, seval]
  simp (maxSteps := 4000000) only [method_specs_simp, seval]
  unfold okS sRead
  have hp0 := sNum_pos (s := ⟨0, false⟩) ht (by simp)
  generalize hn : (sNum t ⟨0, false⟩).1 = n at *
  generalize hs0 : (sNum t ⟨0, false⟩).2 = s0 at *
  refine SW.while (A := Rd × List Rule) (fun a => ⟨pad 67 [.str t, .junk, .ptr 0 0, .ptr 1 0, .int .i64 n, .ar 2 0 a.2.length, .int .i64 a.2.length], [.box true [.nil, .int .i64 0], .box true (encRd t a.1), .arr true 4 (a.2.map encRule)], []⟩)
    (fun a => 21 - a.2.length) (fun a => a.2.length ≤ 21 ∧ a.1.pos ≤ 8000 ∧ rdGo (sNum t) (sText t) 21 n s0 [] = rdGo (sNum t) (sText t) (21 - a.2.length) (n - a.2.length) a.1 a.2) (s0, []) [0, 1, 2] ⟨by simp, hp0, by simp⟩ ?_ ?_
  · simp only [mvcgen_simp, method_specs_simp, seval]
  · rintro ⟨s, l⟩ ⟨hl, hp, hr⟩
    simp only at hl hp hr
    rw [hr]
    refine CW.sound ?_
    simp (maxSteps := 4000000) only [method_specs_simp, seval, encRd]
    by_cases hc : (l.length : Int) < n ∧ l.length ≤ 20 ∧ s.bad = false
    · obtain ⟨c1, c2, c3⟩ := hc
      have d1 : decide ((l.length : Int) < n) = true := by simp; omega
      have d2 : decide ((l.length : Int) ≤ 20) = true := by simp; omega
      simp only [d1, d2, c3, method_specs_simp, Bool.not_false]
      have e1 : [V.str t, V.int .i64 s.pos, V.bool false] = encRd t s := by rw [encRd, c3]
      rw [e1]
      have p1 := sNum_pos ht hp
      refine clY.live [1] [] (n109 t s ht hp) ?_ (Nat.le_refl _) ?_
      · simp only [mvcgen_simp, method_specs_simp, seval]
      simp (maxSteps := 4000000) only [method_specs_simp, seval]
      have p2 := sNum_pos ht p1
      refine clY.live [1] [] (n109 t _ ht p1) ?_ (Nat.le_refl _) ?_
      · simp only [mvcgen_simp, method_specs_simp, seval]
      simp (maxSteps := 4000000) only [method_specs_simp, seval]
      have p3 := sNum_pos ht p2
      refine clY.live [1] [] (n109 t _ ht p2) ?_ (Nat.le_refl _) ?_
      · simp only [mvcgen_simp, method_specs_simp, seval]
      simp (maxSteps := 4000000) only [method_specs_simp, seval]
      have p4 := sText_pos ht p3
      refine clY.live [1] [] (n110 t _ ht p3) ?_ (Nat.le_refl _) ?_
      · simp only [mvcgen_simp, method_specs_simp, seval]
      simp (maxSteps := 4000000) only [method_specs_simp, seval]
      refine ⟨by omega, by omega, ?_⟩
      rw [wrap_id (by omega) (by omega)]
      refine Again.mk ((rdRule (sNum t) (sText t) s).2, l ++ [(rdRule (sNum t) (sText t) s).1]) [0, 1, 5] ⟨by simp; omega, p4, ?_⟩ (by simp only [List.length_append, List.length_singleton]; omega) ?_
      · rw [show 21 - l.length = (20 - l.length) + 1 by omega, rdGo, if_neg (by rw [c3]; simp; omega)]
        simp only [List.length_append, List.length_singleton]
        congr 1
        all_goals omega
      · have e : List.map encRule l ++ [[V.int .i64 (sNum t s).1, V.int .i64 (sNum t (sNum t s).2).1, V.str (sText t (sNum t (sNum t (sNum t s).2).2).2).1, V.int .i64 (sNum t (sNum t (sNum t s).2).2).1]] = List.map encRule (l ++ [(rdRule (sNum t) (sText t) s).1]) := by rw [List.map_append]; rfl
        simp only [e]
        simp only [mvcgen_simp, method_specs_simp, seval, encRd, rdRule, List.length_append, List.length_singleton]
    · have ee : (ByteArray.mk #[]).toList = [] := by simp
      have hR : rdGo (sNum t) (sText t) (21 - l.length) (n - l.length) s l = (l, s) := by
        by_cases h21 : l.length = 21
        · rw [h21]; rfl
        · rw [show 21 - l.length = (20 - l.length) + 1 by omega, rdGo]
          by_cases hb : s.bad = true
          · rw [if_pos (.inr hb)]
          · rw [if_pos (.inl (by simp only [Bool.not_eq_true] at hb; have : ¬ (l.length : Int) < n := fun h => hc ⟨h, by omega, hb⟩; omega))]
      rw [hR]
      have hd : decide ((l.length : Int) < n) = false ∨ (decide ((l.length : Int) < n) = true ∧ decide ((l.length : Int) ≤ 20) = false) ∨ (decide ((l.length : Int) < n) = true ∧ decide ((l.length : Int) ≤ 20) = true ∧ s.bad = true) := by
        by_cases q1 : (l.length : Int) < n
        · by_cases q2 : l.length ≤ 20
          · refine .inr (.inr ⟨by simp; omega, by simp; omega, ?_⟩)
            cases hb : s.bad
            · exact absurd ⟨q1, q2, hb⟩ hc
            · rfl
          · exact .inr (.inl ⟨by simp; omega, by simp; omega⟩)
        · exact .inl (by simp; omega)
      have hd3 : ∀ b : Bool, s.bad = b → (if (!(l, s).2.bad && (!(t.toList == []) && (rbytes (l, s).1).toList == t.toList)) = true then V.agg [.sl 4 ((l, s).1.map encRule), .int .i64 0] else V.agg [.nil, .int .i64 3])
          = if (!b && (!(t.toList == []) && (rbytes l).toList == t.toList)) = true then V.agg [.sl 4 (l.map encRule), .int .i64 0] else V.agg [.nil, .int .i64 3] := fun b hb => by rw [← hb]
      rw [hd3 _ rfl]
      rcases hd with d1 | ⟨d1, d2⟩ | ⟨d1, d2, c3⟩
      all_goals
        simp only [d1, method_specs_simp]
        first | simp only [d2, method_specs_simp] | skip
        cases hb : s.bad with
        | true => simp only [method_specs_simp, Bool.not_true, Bool.false_and]; try rfl
        | false =>
          first | (exfalso; rw [hb] at c3; cases c3; done) | skip
          all_goals
            simp only [method_specs_simp, ee]
            cases ht0 : t.toList == [] with
            | true =>
              try simp only [method_specs_simp, Bool.not_true, Bool.false_and, Bool.and_false]
              try rfl
            | false =>
              simp only [method_specs_simp, Bool.not_false, Bool.true_and]
              refine clY.conF (c25b l (by omega)) (by simp only [method_specs_simp]) (by simp only [method_specs_simp]) trivial ?_
              simp (maxSteps := 4000000) only [method_specs_simp, seval]
              cases hq : (rbytes l).toList == t.toList with
              | true => simp only [method_specs_simp, Bool.not_true]; try rfl
              | false => simp only [method_specs_simp, Bool.not_false]; try rfl
end
end Go.Proofs.Ytkdaijcdddomjaa
