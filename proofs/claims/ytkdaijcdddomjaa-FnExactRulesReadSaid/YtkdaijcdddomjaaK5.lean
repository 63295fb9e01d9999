/- RulesRead of the program. No conditions but bounds of sizes. -/
import Derived.Test.YtkdaijcdddomjaaK4
namespace Go.Proofs.Ytkdaijcdddomjaa
open Go.Pm
set_option maxRecDepth 10000
set_option linter.unusedSimpArgs false
set_option linter.unusedVariables false
theorem unzig_b {u : Int} (h : 0 ≤ u ∧ u < 18446744073709551616) : -9223372036854775808 ≤ unzig u ∧ unzig u < 9223372036854775808 := by
  unfold unzig
  split <;> omega
theorem gnGo_n (t : ByteArray) (a : Nat) : ∀ f i u, f + i = 10 → (i ≤ 9 → 0 ≤ u ∧ u < 2 ^ (7 * i)) → -9223372036854775808 ≤ (gnGo t a f i u).n ∧ (gnGo t a f i u).n < 9223372036854775808
  | 0, i, u, _, _ => by unfold gnGo; simp
  | f + 1, i, u, hf, hu => by
    have hil : i ≤ 9 := by omega
    have hu := hu hil
    have hb := byteAt_b t (a + i)
    unfold gnGo
    split
    · simp
    · split
      · simp
      · rename_i h9
        have pb := part_b hil hb h9
        have p7 := pow7 hil
        split
        · split
          · simp
          · exact unzig_b ⟨by omega, by omega⟩
        · exact gnGo_n t a f (i + 1) _ (by omega) fun h => ⟨by omega, by have := pb.2.2 (by omega); omega⟩
theorem iNum_n (t : ByteArray) (s : Rd) : -9223372036854775808 ≤ (iNum t s).1 ∧ (iNum t s).1 < 9223372036854775808 := gnGo_n t s.pos 10 0 0 rfl fun _ => ⟨by simp, by simp⟩
section
variable {P : Program} [Is P]
theorem n47 (t : ByteArray) (ht : t.size ≤ 8000) (hok : okI t = true) : NCon P 47 [.str t] (.agg [.ar 0 0 (iRead t).1.length, .int .i64 0]) [.arr true 4 ((iRead t).1.map encRule)] := by
  have h1 : decide ((t.size : Int) > 8000) = false := by simp; omega
  refine LCon.new (LCon.of (n := 62) (rs := [.cell 2 65]) (Is.fn Try.func47) rfl (Is.call Try.call47) Try.results47 Try.ntmps47 ?_) (pure1 (Refss_map fun a => by simp [encRule, Refs, Ref]))
  simp (maxSteps := 4000000) only [method_specs_simp, seval, h1]
  have e0 : [V.str t, V.int .i64 0, V.bool false] = encRd t ⟨0, false⟩ := rfl
  rw [e0]
  refine clY.live [1] [] (n111 t ⟨0, false⟩ ht (by simp)) ?_ (Nat.le_refl _) ?_
  · simp only [mvcgen_simp, method_specs_simp, seval]
  simp (maxSteps := 4000000) only [method_specs_simp, seval]
  unfold okI at hok
  unfold iRead at *
  have hp0 := iNum_pos (s := ⟨0, false⟩) ht
  have hnb := iNum_n t ⟨0, false⟩
  generalize hn : (iNum t ⟨0, false⟩).1 = n at *
  generalize hs0 : (iNum t ⟨0, false⟩).2 = s0 at *
  refine SW.while (A := Rd × List Rule) (fun a => ⟨pad 62 [.str t, .junk, .ptr 0 0, .ptr 1 0, .ar 2 0 a.2.length, .int .i64 (n - a.2.length)], [.box true [.nil, .int .i64 0], .box true (encRd t a.1), .arr true 4 (a.2.map encRule)], []⟩)
    (fun a => 21 - a.2.length) (fun a => a.2.length ≤ 21 ∧ a.1.pos ≤ 8000 ∧ rdGo (iNum t) (iText t) 21 n s0 [] = rdGo (iNum t) (iText t) (21 - a.2.length) (n - a.2.length) a.1 a.2) (s0, []) [0, 1, 2] ⟨by simp, hp0, by simp⟩ ?_ ?_
  · simp only [mvcgen_simp, method_specs_simp, seval, List.length_nil, Int.natCast_zero, Int.sub_zero]
  · rintro ⟨s, l⟩ ⟨hl, hp, hr⟩
    simp only at hl hp hr
    rw [hr] at hok
    rw [hr]
    refine CW.sound ?_
    simp (maxSteps := 4000000) only [method_specs_simp, seval, encRd]
    by_cases hc : (l.length : Int) < n ∧ l.length ≤ 20 ∧ s.bad = false
    · obtain ⟨c1, c2, c3⟩ := hc
      have d1 : decide (n - (l.length : Int) > 0) = true := by simp; omega
      have d2 : decide ((l.length : Int) ≤ 20) = true := by simp; omega
      simp only [d1, d2, c3, method_specs_simp, Bool.not_false]
      have e1 : [V.str t, V.int .i64 s.pos, V.bool false] = encRd t s := by rw [encRd, c3]
      rw [e1]
      have p1 := iNum_pos (s := s) ht
      refine clY.live [1] [] (n111 t s ht hp) ?_ (Nat.le_refl _) ?_
      · simp only [mvcgen_simp, method_specs_simp, seval]
      simp (maxSteps := 4000000) only [method_specs_simp, seval]
      have p2 := iNum_pos (s := (iNum t s).2) ht
      refine clY.live [1] [] (n111 t _ ht p1) ?_ (Nat.le_refl _) ?_
      · simp only [mvcgen_simp, method_specs_simp, seval]
      simp (maxSteps := 4000000) only [method_specs_simp, seval]
      have p3 := iNum_pos (s := (iNum t (iNum t s).2).2) ht
      refine clY.live [1] [] (n111 t _ ht p2) ?_ (Nat.le_refl _) ?_
      · simp only [mvcgen_simp, method_specs_simp, seval]
      simp (maxSteps := 4000000) only [method_specs_simp, seval]
      have p4 := iText_pos (s := (iNum t (iNum t (iNum t s).2).2).2) ht
      refine clY.live [1] [] (n112 t _ ht p3) ?_ (Nat.le_refl _) ?_
      · simp only [mvcgen_simp, method_specs_simp, seval]
      simp (maxSteps := 4000000) only [method_specs_simp, seval]
      refine ⟨by omega, by omega, ?_⟩
      rw [wrap_id (by omega) (by omega)]
      refine Again.mk ((rdRule (iNum t) (iText t) s).2, l ++ [(rdRule (iNum t) (iText t) s).1]) [0, 1, 5] ⟨by simp; omega, p4, ?_⟩ (by simp only [List.length_append, List.length_singleton]; omega) ?_
      · first | rw [hr] | skip
        rw [show 21 - l.length = (20 - l.length) + 1 by omega, rdGo, if_neg (by rw [c3]; simp; omega)]
        simp only [List.length_append, List.length_singleton]
        congr 1
        all_goals omega
      · have e : List.map encRule l ++ [[V.int .i64 (iNum t s).1, V.int .i64 (iNum t (iNum t s).2).1, V.str (iText t (iNum t (iNum t (iNum t s).2).2).2).1, V.int .i64 (iNum t (iNum t (iNum t s).2).2).1]] = List.map encRule (l ++ [(rdRule (iNum t) (iText t) s).1]) := by rw [List.map_append]; rfl
        have e3 : n - (l.length : Int) - 1 = n - ((l ++ [(rdRule (iNum t) (iText t) s).1]).length : Int) := by simp; omega
        rw [e, e3]
        simp only [mvcgen_simp, method_specs_simp, seval, encRd, rdRule, List.length_append, List.length_singleton]
    · have hR : rdGo (iNum t) (iText t) (21 - l.length) (n - l.length) s l = (l, s) := by
        by_cases h21 : l.length = 21
        · rw [h21]; rfl
        · rw [show 21 - l.length = (20 - l.length) + 1 by omega, rdGo]
          by_cases hb : s.bad = true
          · rw [if_pos (.inr hb)]
          · rw [if_pos (.inl (by simp only [Bool.not_eq_true] at hb; have : ¬ (l.length : Int) < n := fun h => hc ⟨h, by omega, hb⟩; omega))]
      rw [hR] at hok
      rw [hR]
      simp only at hok
      have hd : decide (n - (l.length : Int) > 0) = false ∨ (decide (n - (l.length : Int) > 0) = true ∧ s.bad = true) ∨ (decide (n - (l.length : Int) > 0) = true ∧ s.bad = false ∧ decide ((l.length : Int) ≤ 20) = false) := by
        by_cases q1 : (l.length : Int) < n
        · cases hb : s.bad
          · refine .inr (.inr ⟨by simp; omega, rfl, ?_⟩)
            by_cases q2 : l.length ≤ 20
            · exact absurd ⟨q1, q2, hb⟩ hc
            · simp; omega
          · exact .inr (.inl ⟨by simp; omega, rfl⟩)
        · exact .inl (by simp; omega)
      rcases hd with d1 | ⟨d1, c3⟩ | ⟨d1, c3, d2⟩
      all_goals
        simp only [d1, method_specs_simp]
        first | simp only [c3, method_specs_simp, Bool.not_true, Bool.not_false] | skip
        all_goals
          first | simp only [d2, method_specs_simp] | skip
          cases hb : s.bad with
          | true =>
            first | (exfalso; rw [hb] at c3; cases c3; done) | skip
            all_goals
              rw [hb] at hok
              try simp only [method_specs_simp]
              try rw [hb] at *
              cases hok
          | false =>
            first | (exfalso; rw [hb] at c3; cases c3; done) | skip
            all_goals
              rw [hb] at hok
              try simp only [method_specs_simp]
              refine clY.conF (c26b l (by omega)) (by simp only [method_specs_simp]) (by simp only [method_specs_simp]) trivial ?_
              simp (maxSteps := 4000000) only [method_specs_simp, seval]
              simp only [Bool.not_false, Bool.true_and] at hok
              rw [hok]
              simp only [method_specs_simp, Bool.not_true]
              refine LResY.mk [2] ?_
              simp only [mvcgen_simp, method_specs_simp, seval]
theorem c47e (t : ByteArray) (ht : t.size ≤ 8000) (hok : okI t = false) : Con P 47 [.str t] (.agg [.nil, .int .i64 3]) := by
  have h1 : decide ((t.size : Int) > 8000) = false := by simp; omega
  refine Con.of (n := 62) (rs := [.cell 2 65]) (Is.fn Try.func47) rfl (Is.call Try.call47) Try.results47 Try.ntmps47 (by simp only [method_specs_simp]) ?_
  simp (maxSteps := 4000000) only [method_specs_simp, seval, h1]
  have e0 : [V.str t, V.int .i64 0, V.bool false] = encRd t ⟨0, false⟩ := rfl
  rw [e0]
  refine clY.live [1] [] (n111 t ⟨0, false⟩ ht (by simp)) ?_ (Nat.le_refl _) ?_
  · simp only [mvcgen_simp, method_specs_simp, seval]
  simp (maxSteps := 4000000) only [method_specs_simp, seval]
  unfold okI at hok
  unfold iRead at *
  have hp0 := iNum_pos (s := ⟨0, false⟩) ht
  have hnb := iNum_n t ⟨0, false⟩
  generalize hn : (iNum t ⟨0, false⟩).1 = n at *
  generalize hs0 : (iNum t ⟨0, false⟩).2 = s0 at *
  refine SW.while (A := Rd × List Rule) (fun a => ⟨pad 62 [.str t, .junk, .ptr 0 0, .ptr 1 0, .ar 2 0 a.2.length, .int .i64 (n - a.2.length)], [.box true [.nil, .int .i64 0], .box true (encRd t a.1), .arr true 4 (a.2.map encRule)], []⟩)
    (fun a => 21 - a.2.length) (fun a => a.2.length ≤ 21 ∧ a.1.pos ≤ 8000 ∧ rdGo (iNum t) (iText t) 21 n s0 [] = rdGo (iNum t) (iText t) (21 - a.2.length) (n - a.2.length) a.1 a.2) (s0, []) [0, 1, 2] ⟨by simp, hp0, by simp⟩ ?_ ?_
  · simp only [mvcgen_simp, method_specs_simp, seval, List.length_nil, Int.natCast_zero, Int.sub_zero]
  · rintro ⟨s, l⟩ ⟨hl, hp, hr⟩
    simp only at hl hp hr
    rw [hr] at hok
    refine CW.sound ?_
    simp (maxSteps := 4000000) only [method_specs_simp, seval, encRd]
    by_cases hc : (l.length : Int) < n ∧ l.length ≤ 20 ∧ s.bad = false
    · obtain ⟨c1, c2, c3⟩ := hc
      have d1 : decide (n - (l.length : Int) > 0) = true := by simp; omega
      have d2 : decide ((l.length : Int) ≤ 20) = true := by simp; omega
      simp only [d1, d2, c3, method_specs_simp, Bool.not_false]
      have e1 : [V.str t, V.int .i64 s.pos, V.bool false] = encRd t s := by rw [encRd, c3]
      rw [e1]
      have p1 := iNum_pos (s := s) ht
      refine clY.live [1] [] (n111 t s ht hp) ?_ (Nat.le_refl _) ?_
      · simp only [mvcgen_simp, method_specs_simp, seval]
      simp (maxSteps := 4000000) only [method_specs_simp, seval]
      have p2 := iNum_pos (s := (iNum t s).2) ht
      refine clY.live [1] [] (n111 t _ ht p1) ?_ (Nat.le_refl _) ?_
      · simp only [mvcgen_simp, method_specs_simp, seval]
      simp (maxSteps := 4000000) only [method_specs_simp, seval]
      have p3 := iNum_pos (s := (iNum t (iNum t s).2).2) ht
      refine clY.live [1] [] (n111 t _ ht p2) ?_ (Nat.le_refl _) ?_
      · simp only [mvcgen_simp, method_specs_simp, seval]
      simp (maxSteps := 4000000) only [method_specs_simp, seval]
      have p4 := iText_pos (s := (iNum t (iNum t (iNum t s).2).2).2) ht
      refine clY.live [1] [] (n112 t _ ht p3) ?_ (Nat.le_refl _) ?_
      · simp only [mvcgen_simp, method_specs_simp, seval]
      simp (maxSteps := 4000000) only [method_specs_simp, seval]
      refine ⟨by omega, by omega, ?_⟩
      rw [wrap_id (by omega) (by omega)]
      refine Again.mk ((rdRule (iNum t) (iText t) s).2, l ++ [(rdRule (iNum t) (iText t) s).1]) [0, 1, 5] ⟨by simp; omega, p4, ?_⟩ (by simp only [List.length_append, List.length_singleton]; omega) ?_
      · first | rw [hr] | skip
        rw [show 21 - l.length = (20 - l.length) + 1 by omega, rdGo, if_neg (by rw [c3]; simp; omega)]
        simp only [List.length_append, List.length_singleton]
        congr 1
        all_goals omega
      · have e : List.map encRule l ++ [[V.int .i64 (iNum t s).1, V.int .i64 (iNum t (iNum t s).2).1, V.str (iText t (iNum t (iNum t (iNum t s).2).2).2).1, V.int .i64 (iNum t (iNum t (iNum t s).2).2).1]] = List.map encRule (l ++ [(rdRule (iNum t) (iText t) s).1]) := by rw [List.map_append]; rfl
        have e3 : n - (l.length : Int) - 1 = n - ((l ++ [(rdRule (iNum t) (iText t) s).1]).length : Int) := by simp; omega
        rw [e, e3]
        simp only [mvcgen_simp, method_specs_simp, seval, encRd, rdRule, List.length_append, List.length_singleton]
    · have hR : rdGo (iNum t) (iText t) (21 - l.length) (n - l.length) s l = (l, s) := by
        by_cases h21 : l.length = 21
        · rw [h21]; rfl
        · rw [show 21 - l.length = (20 - l.length) + 1 by omega, rdGo]
          by_cases hb : s.bad = true
          · rw [if_pos (.inr hb)]
          · rw [if_pos (.inl (by simp only [Bool.not_eq_true] at hb; have : ¬ (l.length : Int) < n := fun h => hc ⟨h, by omega, hb⟩; omega))]
      rw [hR] at hok
      simp only at hok
      have hd : decide (n - (l.length : Int) > 0) = false ∨ (decide (n - (l.length : Int) > 0) = true ∧ s.bad = true) ∨ (decide (n - (l.length : Int) > 0) = true ∧ s.bad = false ∧ decide ((l.length : Int) ≤ 20) = false) := by
        by_cases q1 : (l.length : Int) < n
        · cases hb : s.bad
          · refine .inr (.inr ⟨by simp; omega, rfl, ?_⟩)
            by_cases q2 : l.length ≤ 20
            · exact absurd ⟨q1, q2, hb⟩ hc
            · simp; omega
          · exact .inr (.inl ⟨by simp; omega, rfl⟩)
        · exact .inl (by simp; omega)
      rcases hd with d1 | ⟨d1, c3⟩ | ⟨d1, c3, d2⟩
      all_goals
        simp only [d1, method_specs_simp]
        first | simp only [c3, method_specs_simp, Bool.not_true, Bool.not_false] | skip
        all_goals
          first | simp only [d2, method_specs_simp] | skip
          cases hb : s.bad with
          | true =>
            first | (exfalso; rw [hb] at c3; cases c3; done) | skip
            all_goals
              rw [hb] at hok
              try simp only [method_specs_simp]
              try rw [hb] at *
              skip
          | false =>
            first | (exfalso; rw [hb] at c3; cases c3; done) | skip
            all_goals
              rw [hb] at hok
              try simp only [method_specs_simp]
              refine clY.conF (c26b l (by omega)) (by simp only [method_specs_simp]) (by simp only [method_specs_simp]) trivial ?_
              simp (maxSteps := 4000000) only [method_specs_simp, seval]
              simp only [Bool.not_false, Bool.true_and] at hok
              rw [hok]
              simp only [method_specs_simp, Bool.not_false]
end
end Go.Proofs.Ytkdaijcdddomjaa
