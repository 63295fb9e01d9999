/- Decoding of numbers and of texts, of the reference and of the program. No conditions but bounds of sizes. -/
import Derived.Test.YtkdaijcdddomjaaK1
namespace Go.Proofs.Ytkdaijcdddomjaa
open Go.Pm
set_option maxRecDepth 10000
set_option linter.unusedSimpArgs false
set_option linter.unusedVariables false
section
variable {P : Program} [Is P]
theorem c149 (t : ByteArray) (a : Nat) (ht : t.size ≤ 8000) (ha : a ≤ 8000) : Con P 149 [.str t, .int .i64 a] (encGN (getN t a)) := by
  refine Con.of (n := 73) (rs := [.cell 4 170]) (Is.fn Try.func149) rfl (Is.call Try.call149) Try.results149 Try.ntmps149 (by simp only [method_specs_simp, encGN]) ?_
  have h1 : decide ((t.size : Int) > 8000) = false := by simp; omega
  have h2 : decide ((a : Int) < 0) = false := by simp
  simp (maxSteps := 4000000) only [method_specs_simp, seval, h1, h2]
  refine SW.while (A := Nat × Int) (fun s => ⟨pad 73 [.str t, .int .i64 a, .junk, .junk, .ptr 0 0, .int .u64 s.2, .int .i64 s.1], [.box true [.int .i64 0, .int .i64 0, .int .i64 0]], []⟩)
    (fun s => 10 - s.1) (fun s => s.1 ≤ 10 ∧ (s.1 ≤ 9 → 0 ≤ s.2 ∧ s.2 < 2 ^ (7 * s.1)) ∧ getN t a = gnGo t a (10 - s.1) s.1 s.2) (0, 0) [0] ⟨by omega, fun _ => ⟨by simp, by simp⟩, rfl⟩ ?_ ?_
  · simp only [mvcgen_simp, method_specs_simp, seval]
  · rintro ⟨i, u⟩ ⟨hi, hu, hr⟩
    simp only at hi hu hr
    refine CW.sound ?_
    simp (maxSteps := 4000000) only [method_specs_simp, seval]
    refine gB_split (fun h => ?_) (fun h => ?_)
    · simp only [decide_eq_true_eq] at h
      have hil : i ≤ 9 := by omega
      have hu := hu hil
      rw [wrap_id (n := (t.size : Int) - i) (by omega) (by omega)]
      have hf : 10 - i = (9 - i) + 1 := by omega
      rw [hf, gnGo] at hr
      refine gB_split (fun h3 => ?_) (fun h3 => ?_)
      · simp only [decide_eq_true_eq] at h3
        rw [if_pos (by omega)] at hr
        rw [hr]
        rfl
      · simp only [decide_eq_false_iff_not, Bool.not_true] at h3
        rw [if_neg (by omega)] at hr
        have hb := byteAt_b t (a + i)
        have e1 : IntKind.i64.wrap ((a : Int) + i) = ((a + i : Nat) : Int) := by rw [wrap_id (by omega) (by omega)]; omega
        rw [e1, Int.toNat_natCast]
        generalize byteAt t (a + i) = c at *
        rw [u64_id (n := c) (by omega) (by omega)]
        refine ⟨by omega, by omega, ?_⟩
        by_cases h9 : i = 9 ∧ 1 < c
        · rw [if_pos h9] at hr
          have x1 : ((i : Int) == 9) = true := by simp; omega
          have x2 : decide (c > 1) = true := by simp; omega
          simp only [x1, x2, method_specs_simp]
          rw [hr]
          rfl
        · rw [if_neg h9] at hr
          have x0 : 0 ≤ IntKind.u64.wrap (IntKind.i64.wrap (7 * (i : Int))) := by rw [wrap_id (by omega) (by omega), u64_id (by omega) (by omega)]; omega
          rw [spec_part hil hb h9 hu]
          have pb := part_b hil hb h9
          have p7 := pow7 hil
          have hw : 0 ≤ u + c % 128 * 2 ^ (7 * i) ∧ u + c % 128 * 2 ^ (7 * i) < 18446744073709551616 := by omega
          have hw2 : i ≤ 8 → u + c % 128 * 2 ^ (7 * i) < 2 ^ (7 * (i + 1)) := fun h8 => by have := pb.2.2 h8; omega
          generalize u + c % 128 * 2 ^ (7 * i) = w at *
          have hpos : IntKind.i64.wrap (((a + i : Nat) : Int) + 1) = ((a + i + 1 : Nat) : Int) := by rw [wrap_id (by omega) (by omega)]; omega
          have hnx : IntKind.i64.wrap ((i : Int) + 1) = ((i + 1 : Nat) : Int) := by rw [wrap_id (by omega) (by omega)]; omega
          have hen := spec_end hw
          have htm : w.tmod 2 = w % 2 := Int.tmod_eq_emod_of_nonneg hw.1
          rw [hen.1, hen.2, htm, hpos, hnx]
          have hcase : ((i : Int) == 9) = false ∨ ((i : Int) == 9) = true ∧ decide (c > 1) = false := by
            by_cases hi9 : i = 9
            · exact .inr ⟨by simp; omega, by simp; omega⟩
            · exact .inl (by simp; omega)
          rcases hcase with x1 | ⟨x1, x2⟩
          all_goals
            first | simp only [x1, method_specs_simp] | skip
            first | simp only [x2, method_specs_simp] | skip
            refine ⟨x0, ?_⟩
            refine gB_split (fun h4 => ?_) (fun h4 => ?_)
            · simp only [decide_eq_true_eq] at h4
              rw [if_pos h4] at hr
              by_cases hz : c = 0 ∧ 0 < i
              · rw [if_pos hz] at hr
                have x3 : (c == 0) = true := by simp; omega
                have x4 : decide ((i : Int) > 0) = true := by simp; omega
                simp only [x3, x4, method_specs_simp]
                rw [hr]
                rfl
              · rw [if_neg hz] at hr
                have hz2 : (c == 0) = false ∨ (c == 0) = true ∧ decide ((i : Int) > 0) = false := by
                  by_cases hc0 : c = 0
                  · exact .inr ⟨by simp; omega, by simp; omega⟩
                  · exact .inl (by simp; omega)
                have fin : gB (.bool (w % 2 == 1)) true (V.agg [V.int IntKind.i64 (-(w / 2) - 1), V.int IntKind.i64 ((a + i + 1 : Nat) : Int), V.int IntKind.i64 0] = encGN (getN t a))
                    (V.agg [V.int IntKind.i64 (w / 2), V.int IntKind.i64 ((a + i + 1 : Nat) : Int), V.int IntKind.i64 0] = encGN (getN t a)) := by
                  refine gB_split (fun h5 => ?_) (fun h5 => ?_)
                  · rw [hr]; simp only [beq_iff_eq] at h5; unfold unzig; rw [if_pos h5]; rfl
                  · rw [hr]; simp only [Bool.not_true, beq_eq_false_iff_ne] at h5; unfold unzig; rw [if_neg h5]; rfl
                rcases hz2 with x3 | ⟨x3, x4⟩
                · simp only [x3, method_specs_simp]
                  exact fin
                · simp only [x3, x4, method_specs_simp]
                  exact fin
            · simp only [decide_eq_false_iff_not, Bool.not_true] at h4
              rw [if_neg h4] at hr
              refine Again.mk (i + 1, w) [0] ⟨by omega, fun h8 => ⟨hw.1, hw2 (by omega)⟩, ?_⟩ (by simp only; omega) ?_
              · rw [show 10 - (i + 1) = 9 - i by omega]
                exact hr
              · simp only [mvcgen_simp, method_specs_simp, seval]
    · simp only [decide_eq_false_iff_not, Bool.not_true] at h
      have hi10 : i = 10 := by omega
      subst hi10
      rw [hr]
      rfl
theorem c151 (t : ByteArray) (a : Nat) (ht : t.size ≤ 8000) (ha : a ≤ 8000) : Con P 151 [.str t, .int .i64 a] (encGN (getN t a)) := by
  refine Con.of (n := 69) (rs := [.cell 4 170]) (Is.fn Try.func151) rfl (Is.call Try.call151) Try.results151 Try.ntmps151 (by simp only [method_specs_simp, encGN]) ?_
  have h2 : decide ((a : Int) < 0) = false := by simp
  simp (maxSteps := 4000000) only [method_specs_simp, seval, h2]
  refine SW.while (A := Nat × Int) (fun s => ⟨pad 69 [.str t, .int .i64 a, .junk, .junk, .ptr 0 0, .int .u64 s.2, .int .i64 s.1], [.box true [.int .i64 0, .int .i64 0, .int .i64 0]], []⟩)
    (fun s => 10 - s.1) (fun s => s.1 ≤ 9 ∧ (0 ≤ s.2 ∧ s.2 < 2 ^ (7 * s.1)) ∧ getN t a = gnGo t a (10 - s.1) s.1 s.2) (0, 0) [0] ⟨by omega, ⟨by simp, by simp⟩, rfl⟩ ?_ ?_
  · simp only [mvcgen_simp, method_specs_simp, seval]
  · rintro ⟨i, u⟩ ⟨hil, hu, hr⟩
    simp only at hil hu hr
    refine CW.sound ?_
    have e1 : IntKind.i64.wrap ((a : Int) + i) = (a : Int) + i := wrap_id (by omega) (by omega)
    have e2 : decide ((a : Int) + i < a) = false := by simp; omega
    have e3 : ((a : Int) + i).toNat = a + i := by omega
    simp (maxSteps := 4000000) only [method_specs_simp, seval, e1, e2, e3]
    have hf : 10 - i = (9 - i) + 1 := by omega
    rw [hf, gnGo] at hr
    refine gB_split (fun h3 => ?_) (fun h3 => ?_)
    · simp only [decide_eq_true_eq] at h3
      rw [if_pos (by omega)] at hr
      rw [hr]
      rfl
    · simp only [decide_eq_false_iff_not, Bool.not_true] at h3
      rw [if_neg (by omega)] at hr
      have hb := byteAt_b t (a + i)
      generalize byteAt t (a + i) = c at *
      refine ⟨by omega, by omega, ?_⟩
      by_cases h9 : i = 9 ∧ 1 < c
      · rw [if_pos h9] at hr
        have x1 : ((i : Int) == 9) = true := by simp; omega
        have x2 : decide (c > 1) = true := by simp; omega
        simp only [x1, x2, method_specs_simp]
        rw [hr]
        rfl
      · rw [if_neg h9] at hr
        have x0 : 0 ≤ IntKind.i64.wrap (7 * (i : Int)) := by rw [wrap_id (by omega) (by omega)]; omega
        rw [and127' hb, impl_part hil hb h9 hu]
        have pb := part_b hil hb h9
        have p7 := pow7 hil
        have hw : 0 ≤ u + c % 128 * 2 ^ (7 * i) ∧ u + c % 128 * 2 ^ (7 * i) < 18446744073709551616 := by omega
        have hw2 : i ≤ 8 → u + c % 128 * 2 ^ (7 * i) < 2 ^ (7 * (i + 1)) := fun h8 => by have := pb.2.2 h8; omega
        generalize u + c % 128 * 2 ^ (7 * i) = w at *
        have hpos : IntKind.i64.wrap ((a : Int) + i + 1) = ((a + i + 1 : Nat) : Int) := by rw [wrap_id (by omega) (by omega)]; omega
        have hnx : IntKind.i64.wrap ((i : Int) + 1) = ((i + 1 : Nat) : Int) := by rw [wrap_id (by omega) (by omega)]; omega
        rw [and1 hw, impl_end hw, hpos, hnx]
        have hcase : ((i : Int) == 9) = false ∨ ((i : Int) == 9) = true ∧ decide (c > 1) = false := by
          by_cases hi9 : i = 9
          · exact .inr ⟨by simp; omega, by simp; omega⟩
          · exact .inl (by simp; omega)
        have hz2 : (c = 0 ∧ 0 < i ∧ (c == 0) = true ∧ decide ((i : Int) > 0) = true) ∨ (¬ (c = 0 ∧ 0 < i) ∧ (c == 0) = false) ∨ (¬ (c = 0 ∧ 0 < i) ∧ (c == 0) = true ∧ decide ((i : Int) > 0) = false) := by
          by_cases hc0 : c = 0
          · by_cases hi0 : 0 < i
            · exact .inl ⟨hc0, hi0, by simp; omega, by simp; omega⟩
            · exact .inr (.inr ⟨by omega, by simp; omega, by simp; omega⟩)
          · exact .inr (.inl ⟨by omega, by simp; omega⟩)
        rcases hcase with x1 | ⟨x1, x2⟩
        all_goals
          first | simp only [x1, method_specs_simp] | skip
          first | simp only [x2, method_specs_simp] | skip
          rcases hz2 with ⟨z1, z2, x3, x4⟩ | ⟨z1, x3⟩ | ⟨z1, x3, x4⟩
          · rw [if_pos (by omega), if_pos ⟨z1, z2⟩] at hr
            simp only [x3, x4, method_specs_simp]
            rw [hr]
            rfl
          all_goals
            rw [if_neg z1] at hr
            simp only [x3, method_specs_simp]
            first | simp only [x4, method_specs_simp] | skip
            refine ⟨x0, ?_⟩
            refine gB_split (fun h4 => ?_) (fun h4 => ?_)
            · simp only [decide_eq_true_eq] at h4
              rw [if_pos h4] at hr
              rw [hr]
              rfl
            · simp only [decide_eq_false_iff_not, Bool.not_true] at h4
              rw [if_neg h4] at hr
              refine Again.mk (i + 1, w) [0] ⟨by omega, ⟨hw.1, hw2 (by omega)⟩, ?_⟩ (by simp only; omega) ?_
              · rw [show 10 - (i + 1) = 9 - i by omega]
                exact hr
              · simp only [mvcgen_simp, method_specs_simp, seval]
/-- A text that stands in another one. -/
structure GT where
  s : ByteArray
  pos : Int
  code : Int
def encGT (g : GT) : V := .agg [.str g.s, .int .i64 g.pos, .int .i64 g.code]
def getT (t : ByteArray) (a : Nat) : GT :=
  if (getN t a).code ≠ 0 then ⟨⟨#[]⟩, 0, (getN t a).code⟩ else
  if (getN t a).n < 0 ∨ 8000 < (getN t a).n then ⟨⟨#[]⟩, 0, 3⟩ else
  if (t.size : Int) < (getN t a).pos + (getN t a).n then ⟨⟨#[]⟩, 0, 4⟩ else
  ⟨t.extract (getN t a).pos.toNat ((getN t a).pos + (getN t a).n).toNat, (getN t a).pos + (getN t a).n, 0⟩
theorem gnGo_b (t : ByteArray) (a : Nat) : ∀ f i u, 0 ≤ (gnGo t a f i u).pos ∧ (gnGo t a f i u).pos ≤ t.size
  | 0, i, u => by unfold gnGo; simp
  | f + 1, i, u => by
    unfold gnGo
    split
    · simp
    · split
      · simp
      · split
        · split
          · simp
          · simp only; omega
        · exact gnGo_b t a f _ _
theorem getN_b (t : ByteArray) (a : Nat) : 0 ≤ (getN t a).pos ∧ (getN t a).pos ≤ t.size := gnGo_b _ _ _ _ _
theorem getT_b (t : ByteArray) (a : Nat) : 0 ≤ (getT t a).pos ∧ (getT t a).pos ≤ t.size := by
  have := getN_b t a
  unfold getT
  split
  · simp
  · split
    · simp
    · split
      · simp
      · simp only; omega
theorem c150 (t : ByteArray) (a : Nat) (ht : t.size ≤ 8000) (ha : a ≤ 8000) : Con P 150 [.str t, .int .i64 a] (encGT (getT t a)) := by
  refine Con.of (n := 48) (rs := [.cell 4 173]) (Is.fn Try.func150) rfl (Is.call Try.call150) Try.results150 Try.ntmps150 (by simp only [method_specs_simp, encGT]) ?_
  simp (maxSteps := 4000000) only [method_specs_simp, seval]
  refine clY.con (c149 t a ht ha) (by simp only [method_specs_simp]) ?_
  have hb := getN_b t a
  unfold getT
  generalize getN t a = g at *
  obtain ⟨n, p, c⟩ := g
  simp only at hb
  simp (maxSteps := 4000000) only [method_specs_simp, seval, encGN]
  refine gB_split (fun h => ?_) (fun h => ?_)
  · simp only [bne_iff_ne] at h
    rw [if_pos h]
    rfl
  · simp only [Bool.not_true, bne_eq_false_iff_eq] at h
    subst h
    rw [if_neg (by simp)]
    by_cases hn : n < 0 ∨ 8000 < n
    · rw [if_pos hn]
      refine gB_split (fun h => ?_) (fun h => ?_)
      · simp only [decide_eq_false_iff_not] at h
        have x : decide (n > 8000) = true := by simp; omega
        simp only [x, method_specs_simp]
        rfl
      · rfl
    · rw [if_neg hn]
      have x1 : decide (n < 0) = false := by simp; omega
      have x2 : decide (n > 8000) = false := by simp; omega
      simp only [x1, x2, method_specs_simp]
      have e1 : IntKind.i64.wrap ((t.size : Int) - n) = t.size - n := wrap_id (by omega) (by omega)
      have e2 : IntKind.i64.wrap (p + n) = p + n := wrap_id (by omega) (by omega)
      rw [e1, e2]
      refine gB_split (fun h => ?_) (fun h => ?_)
      · simp only [decide_eq_true_eq] at h
        rw [if_pos (by omega)]
        rfl
      · simp only [decide_eq_false_iff_not, Bool.not_true] at h
        rw [if_neg (by omega)]
        exact ⟨by kernel_rfl, by omega, by omega, by omega, rfl⟩
theorem c152 (t : ByteArray) (a : Nat) (ht : t.size ≤ 8000) (ha : a ≤ 8000) : Con P 152 [.str t, .int .i64 a] (encGT (getT t a)) := by
  have h1 : decide ((t.size : Int) > 8000) = false := by simp; omega
  refine Con.of (n := 49) (rs := [.cell 4 173]) (Is.fn Try.func152) rfl (Is.call Try.call152) Try.results152 Try.ntmps152 (by simp only [method_specs_simp, encGT]) ?_
  simp (maxSteps := 4000000) only [method_specs_simp, seval, h1]
  refine clY.con (c151 t a ht ha) (by simp only [method_specs_simp]) ?_
  have hb := getN_b t a
  unfold getT
  generalize getN t a = g at *
  obtain ⟨n, p, c⟩ := g
  simp only at hb
  simp (maxSteps := 4000000) only [method_specs_simp, seval, encGN]
  refine gB_split (fun h => ?_) (fun h => ?_)
  · simp only [bne_iff_ne] at h
    rw [if_pos h]
    rfl
  · simp only [Bool.not_true, bne_eq_false_iff_eq] at h
    subst h
    rw [if_neg (by simp)]
    refine clY.con (c78 _ _ _) (by simp only [method_specs_simp]) ?_
    by_cases hn : n < 0 ∨ 8000 < n
    · rw [if_pos hn]
      have x : isB n 0 8000 = false := by simp [isB]; omega
      rw [x]
      simp (maxSteps := 4000000) only [method_specs_simp, seval]
      rfl
    · rw [if_neg hn]
      have x : isB n 0 8000 = true := by simp [isB]; omega
      rw [x]
      have e2 : IntKind.i64.wrap (p + n) = p + n := wrap_id (by omega) (by omega)
      simp (maxSteps := 4000000) only [method_specs_simp, seval, e2]
      refine gB_split (fun h => ?_) (fun h => ?_)
      · simp only [decide_eq_true_eq] at h
        rw [if_pos (by omega)]
        rfl
      · simp only [decide_eq_false_iff_not, Bool.not_true] at h
        rw [if_neg (by omega)]
        exact ⟨by omega, by omega, by omega, rfl⟩
end
end Go.Proofs.Ytkdaijcdddomjaa
