/- Sorting in place, stable: insertion. Conditions: lengths that fit a machine. -/
import Derived.Test.YtkcllejnmpnjfaaH1
namespace Go.Proofs.Ytkcllejnmpnjfaa
open Go.Pm
open Go.Gm (LtD ltD StD srtD)
set_option maxRecDepth 10000
set_option linter.unusedSimpArgs false
set_option linter.unusedVariables false
section
variable {P : Program} [Is P]
theorem n_insert {l l' : List Int} {n a b : Nat} {A X B : List Int} {d : Int → Int} (c : FuncId) (dl : List Int) (hcmp : ∀ x ∈ X, ∀ y ∈ X, Con P c [.int .i64 x, .int .i64 y, .fptr [.sl 1 (dl.map encI)] 0] (.int .i64 (cmpI (d x) (d y))))
    (h : l = A ++ (X ++ B)) (h' : l' = A ++ (srtD d X ++ B)) (ha : a = A.length) (hb : b = a + X.length) (hs : StD d X) (hn : n = l.length) (hlt : n < 2 ^ 60) :
    LCon P 257 [.ar 0 0 n, .int .i64 a, .int .i64 b, .fn c [] [.fptr [.sl 1 (dl.map encI)] 0]] [.arr true 1 (l.map encI)] (.tup []) [.arr true 1 (l'.map encI)] := by
  have hbn : b ≤ n := by rw [hn, h]; simp only [List.length_append]; omega
  have wa : IntKind.i64.wrap ((a : Int) + 1) = ((a + 1 : Nat) : Int) := wadd1 a (by omega)
  refine LCon.of (n := 53) (rs := []) (Is.fn Try.func257) rfl (Is.call Try.call257) Try.results257 Try.ntmps257 ?_
  simp (maxSteps := 4000000) only [method_specs_simp, seval, wa]
  refine SW.while (A := Nat × List Int) (fun p => ⟨pad 53 [.ar 0 0 n, .int .i64 a, .int .i64 b, .fn c [] [.fptr [.sl 1 (dl.map encI)] 0], .junk, .junk, .junk, .junk, .int .i64 p.1], [.arr true 1 (p.2.map encI)], [.ar 0 0 n, .eptr 0 1 0]⟩)
    (fun p => b + 1 - p.1) (fun p => a + 1 ≤ p.1 ∧ (p.1 ≤ b ∨ p.1 = a + 1) ∧ p.2.length = n ∧ p.2 = A ++ (srtD d (X.take (p.1 - a)) ++ (X.drop (p.1 - a) ++ B))) (a + 1, l) [0] ⟨Nat.le_refl _, .inr rfl, hn.symm, ?_⟩ ?_ ?_
  · show l = A ++ (srtD d (X.take (a + 1 - a)) ++ (X.drop (a + 1 - a) ++ B))
    rw [h, show a + 1 - a = 1 by omega]
    cases X <;> rfl
  · simp only [mvcgen_simp, method_specs_simp, seval]
    try exact hn
  · rintro ⟨i, z⟩ ⟨hk1, hk2, hzl, hz⟩
    simp only at hk1 hk2 hzl hz
    obtain ⟨k, hk⟩ : ∃ k, k = i - a := ⟨_, rfl⟩
    rw [← hk] at hz
    refine CW.sound ?_
    simp (maxSteps := 4000000) only [method_specs_simp, seval, hzl]
    refine gB_split (fun h1 => ?_) (fun h1 => ?_)
    · simp only [decide_eq_true_eq, Int.ofNat_lt] at h1
      obtain ⟨x, hx1, hx2, hx3⟩ := Gm.drop_next (l := X) (i := k) (by omega)
      have hSl : (srtD d (X.take k)).length = k := by rw [Gm.srtD_len, List.length_take]; omega
      refine SW.while (A := Nat × List Int) (fun p => ⟨pad 53 [.ar 0 0 n, .int .i64 a, .int .i64 b, .fn c [] [.fptr [.sl 1 (dl.map encI)] 0], .junk, .junk, .junk, .junk, .int .i64 i, .int .i64 p.1], [.arr true 1 (p.2.map encI)], [.ar 0 0 n, .eptr 0 1 0]⟩)
        (fun p => p.1) (fun p => p.2.length = n ∧ ∃ S1 S2, srtD d (X.take k) = S1 ++ S2 ∧ p.2 = A ++ (S1 ++ x :: (S2 ++ (X.drop (k + 1) ++ B))) ∧ p.1 = a + S1.length ∧ ∀ y ∈ S2, LtD d x y) (i, z) [0] ⟨hzl, srtD d (X.take k), [], by simp, ?_, ?_, by simp⟩ ?_ ?_
      · show z = _
        rw [hz, hx2]; rfl
      · show i = a + (srtD d (X.take k)).length
        omega
      · simp only [mvcgen_simp, method_specs_simp, seval]
      · rintro ⟨j, z2⟩ ⟨hzl2, S1, S2, hS, hz2, hj, hS2⟩
        simp only at hzl2 hz2 hj
        have hS1 : S1.length + S2.length = k := by rw [← List.length_append, ← hS]; exact hSl
        have hsx : StD d (X.take (k + 1)) := hs.sub (List.take_sublist _ _)
        have hsS : (S1 ++ S2).Pairwise (LtD d) := by rw [← hS]; exact Gm.srtD_sorted (hs.sub (List.take_sublist _ _)).nodup
        have hmem : ∀ y ∈ S1 ++ S2, y ∈ X.take k := fun y hy => (Gm.srtD_perm d _).subset (by rw [hS]; exact hy)
        have fin : (∀ y ∈ S1, LtD d y x) → S1 ++ x :: S2 = srtD d (X.take (k + 1)) := fun h1 => by
          refine Gm.srtD_of ?_ ?_
          · rw [hx3]
            refine List.perm_middle.trans (((Gm.srtD_perm d (X.take k)).symm.trans (by rw [hS])).symm.cons x |>.trans ?_)
            exact (List.perm_append_singleton x _).symm
          · have hp := List.pairwise_append.1 hsS
            refine List.pairwise_append.2 ⟨hp.1, List.pairwise_cons.2 ⟨hS2, hp.2.1⟩, fun y hy z hz => ?_⟩
            rcases List.mem_cons.1 hz with rfl | hz
            · exact h1 y hy
            · exact hp.2.2 y hy z hz
        have fin2 : (∀ y ∈ S1, LtD d y x) → z2 = A ++ (srtD d (X.take (i + 1 - a)) ++ (X.drop (i + 1 - a) ++ B)) := fun h1 => by
          rw [hz2, show i + 1 - a = k + 1 by omega, ← fin h1]
          simp only [List.append_assoc, List.cons_append]
        have wi : IntKind.i64.wrap ((i : Int) + 1) = ((i + 1 : Nat) : Int) := wadd1 i (by omega)
        refine CW.sound ?_
        simp (maxSteps := 4000000) only [method_specs_simp, seval, hzl2, wi]
        refine ⟨by kernel_rfl, ?_⟩
        refine gB_split (fun h2 => ?_) (fun h2 => ?_)
        · simp only [decide_eq_true_eq, gt_iff_lt, Int.ofNat_lt] at h2
          obtain ⟨S3, y, rfl⟩ : ∃ S3 y, S1 = S3 ++ [y] := by
            rcases List.eq_nil_or_concat S1 with rfl | ⟨S3, y, rfl⟩
            · simp at hj; omega
            · exact ⟨S3, y, by simp⟩
          rw [List.length_append, List.length_singleton] at hj hS1
          have hz3 : z2 = (A ++ S3) ++ y :: ([] ++ x :: (S2 ++ (X.drop (k + 1) ++ B))) := by rw [hz2]; simp only [List.append_assoc, List.cons_append, List.nil_append]
          obtain ⟨q, hq⟩ : ∃ q, q = j - 1 := ⟨_, rfl⟩
          have wq : IntKind.i64.wrap ((j : Int) - 1) = (q : Int) := by rw [hq]; exact wsub1 j (by omega) (by omega)
          obtain ⟨g1, g2, _, g3⟩ := Gm.two_get (i := q) (j := j) hz3 (by rw [List.length_append]; omega) (by simp only [List.length_append, List.length_nil]; omega)
          have hyX : y ∈ X.take k := hmem y (by simp)
          refine ⟨by omega, by omega, ?_⟩
          simp (maxSteps := 4000000) only [method_specs_simp, seval, g1, g2, encI, wq]
          refine ⟨by omega, by omega, ?_⟩
          have hc0 := hcmp x (List.mem_of_getElem? hx1) y (List.mem_of_mem_take hyX)
          have hle : decide (cmpI (d x) (d y) < 0) = ltD d x y := by
            rw [← Gm.behind (x := y) (y := x)]
            · unfold cmpI
              split
              · rename_i h5; simp [h5]
              · rename_i h5
                split <;> simp [h5]
            · intro he
              rw [hx3] at hsx
              exact (List.pairwise_append.1 hsx).2.2 y hyX x (by simp) he
          refine clY.conC hc0 rfl (by simp only [method_specs_simp]) ?_
          simp (maxSteps := 4000000) only [method_specs_simp, seval, hle, wq]
          refine gB_split (fun h5 => ?_) (fun h5 => ?_)
          · refine ⟨by kernel_rfl, by omega, by omega, ?_⟩
            simp (maxSteps := 4000000) only [method_specs_simp, seval, g1, g2, encI, wq]
            refine ⟨by omega, by omega, by omega, by omega, by omega, by omega, by omega, by (try rw [List.length_set]); omega, ?_⟩
            refine Again.mk (q, (z2.set j y).set q x) [0] ⟨by simp only [List.length_set]; exact hzl2, S3, y :: S2, hS.trans (by simp), ?_, ?_, ?_⟩ (by show q < j; omega) ?_
            · show (z2.set j y).set q x = _
              rw [g3]
              simp only [List.append_assoc, List.cons_append, List.nil_append]
            · show q = a + S3.length; omega
            · intro y' hy'
              rcases List.mem_cons.1 hy' with rfl | hy'
              · exact h5
              · exact hS2 y' hy'
            · simp only [mvcgen_simp, method_specs_simp, seval]
          · have hlast : ∀ y' ∈ S3 ++ [y], LtD d y' x := by
              have hyx : LtD d y x := Gm.ltD_tot (fun e => by
                rw [hx3] at hsx
                have := (List.pairwise_append.1 hsx).2.2 y hyX x (by simp) (by rw [e])
                omega) (by unfold LtD; rw [h5]; decide)
              intro y' hy'
              rcases List.mem_append.1 hy' with hy' | hy'
              · have hp := List.pairwise_append.1 (List.pairwise_append.1 hsS).1
                exact (Gm.ltD_str d).tr _ _ _ (hp.2.2 y' hy' y (by simp)) hyx
              · simp only [List.mem_cons, List.not_mem_nil, or_false] at hy'
                rw [hy']; exact hyx
            rw [wi]
            refine Again.mk (i + 1, z2) [0] ⟨by show a + 1 ≤ i + 1; omega, .inl (by show i + 1 ≤ b; omega), hzl2, fin2 hlast⟩ (by show b + 1 - (i + 1) < b + 1 - i; omega) ?_
            simp only [mvcgen_simp, method_specs_simp, seval]
        · have hn0 : S1 = [] := by
            simp only [decide_eq_false_iff_not, Bool.not_true, gt_iff_lt, Int.ofNat_lt] at h2
            exact List.eq_nil_of_length_eq_zero (by omega)
          refine Again.mk (i + 1, z2) [0] ⟨by show a + 1 ≤ i + 1; omega, .inl (by show i + 1 ≤ b; omega), hzl2, fin2 (by rw [hn0]; simp)⟩ (by show b + 1 - (i + 1) < b + 1 - i; omega) ?_
          simp only [mvcgen_simp, method_specs_simp, seval]
    · have e2 : z = l' := by
        simp only [decide_eq_false_iff_not, Bool.not_true, Int.ofNat_lt] at h1
        rw [hz, h', List.take_of_length_le (by omega), List.drop_eq_nil_of_le (by omega)]; rfl
      refine LResY.mk [0] ?_
      simp only [mvcgen_simp, method_specs_simp, seval, e2, hn]
end
end Go.Proofs.Ytkcllejnmpnjfaa
