/- Sorting in place, stable: changing places, turning, insertion. Conditions: lengths that fit a machine. -/
import Derived.Test.YtkcllejnmpnjfaaG4
import Derived.Test.YtkcllejnmpnjfaaS3
import Derived.Test.YtkcllejnmpnjfaaL5
namespace Go.Proofs.Ytkcllejnmpnjfaa
open Go.Pm
open Go.Gm (LtD ltD StD srtD)
set_option maxRecDepth 10000
set_option linter.unusedSimpArgs false
set_option linter.unusedVariables false
theorem drop_encI (z : List Int) (q : Nat) : ((z.map encI).getD q []).drop 1 = [] := by
  rw [List.getD_eq_getElem?_getD, List.getElem?_map]
  cases z[q]? <;> rfl
@[method_specs_simp] theorem set_encI (z : List Int) (q : Nat) (y : Int) : (z.map encI).set q (.int .i64 y :: ((z.map encI).getD q []).drop 1) = (z.set q y).map encI := by
  rw [drop_encI, List.map_set]; rfl
section
variable {P : Program} [Is P]
theorem wn (n : Nat) (h : n < 2 ^ 62) : IntKind.i64.wrap (n : Int) = (n : Int) := wrap_id (by omega) (by omega)
theorem wadd (a b : Nat) (h : a + b < 2 ^ 62) : IntKind.i64.wrap ((a : Int) + (b : Int)) = ((a + b : Nat) : Int) := by rw [wrap_id (by omega) (by omega)]; rfl
theorem wsub (a b : Nat) (h : a < 2 ^ 62) (h2 : b ≤ a) : IntKind.i64.wrap ((a : Int) - (b : Int)) = ((a - b : Nat) : Int) := by rw [wrap_id (by omega) (by omega)]; omega
theorem wadd1 (a : Nat) (h : a + 1 < 2 ^ 62) : IntKind.i64.wrap ((a : Int) + 1) = ((a + 1 : Nat) : Int) := wadd a 1 h
theorem wsub1 (a : Nat) (h : a < 2 ^ 62) (h2 : 1 ≤ a) : IntKind.i64.wrap ((a : Int) - 1) = ((a - 1 : Nat) : Int) := wsub a 1 h h2
theorem n_swapRange {l l' : List Int} {n a b k : Nat} {A X M Y B : List Int} (c : FuncId) (dl : List Int) (h : l = A ++ (X ++ (M ++ (Y ++ B)))) (h' : l' = A ++ (Y ++ (M ++ (X ++ B))))
    (ha : a = A.length) (hk : k = X.length) (hy : k = Y.length) (hb : b = a + k + M.length) (hn : n = l.length) (hlt : n < 2 ^ 60) :
    LCon P 293 [.ar 0 0 n, .int .i64 a, .int .i64 b, .int .i64 k, .fn c [] [.fptr [.sl 1 (dl.map encI)] 0]] [.arr true 1 (l.map encI)] (.tup []) [.arr true 1 (l'.map encI)] := by
  have hbk : b + k ≤ n := by rw [hn, h]; simp only [List.length_append]; omega
  refine LCon.of (n := 38) (rs := []) (Is.fn Try.func293) rfl (Is.call Try.call293) Try.results293 Try.ntmps293 ?_
  simp (maxSteps := 4000000) only [method_specs_simp, seval]
  refine SW.while (A := Nat × List Int) (fun p => ⟨pad 38 [.ar 0 0 n, .int .i64 a, .int .i64 b, .int .i64 k, .fn c [] [.fptr [.sl 1 (dl.map encI)] 0], .junk, .junk, .junk, .junk, .junk, .int .i64 p.1], [.arr true 1 (p.2.map encI)], [.ar 0 0 n, .eptr 0 1 0]⟩)
    (fun p => k - p.1) (fun p => p.1 ≤ k ∧ p.2.length = n ∧ p.2 = A ++ ((Y.take p.1 ++ X.drop p.1) ++ (M ++ ((X.take p.1 ++ Y.drop p.1) ++ B)))) (0, l) [0] ⟨Nat.zero_le _, hn.symm, h⟩ ?_ ?_
  · simp only [mvcgen_simp, method_specs_simp, seval]
    exact hn
  · rintro ⟨i, z⟩ ⟨hi, hzl, hz⟩
    simp only at hi hzl hz
    refine CW.sound ?_
    simp (maxSteps := 4000000) only [method_specs_simp, seval, hzl]
    refine gB_split (fun h1 => ?_) (fun h1 => ?_)
    · simp only [decide_eq_true_eq, Int.ofNat_lt] at h1
      obtain ⟨j, hj⟩ : ∃ j, j = b + i := ⟨_, rfl⟩
      obtain ⟨q, hq⟩ : ∃ q, q = a + i := ⟨_, rfl⟩
      have wj : IntKind.i64.wrap ((b : Int) + (i : Int)) = (j : Int) := by rw [hj]; exact wadd b i (by omega)
      have wq : IntKind.i64.wrap ((a : Int) + (i : Int)) = (q : Int) := by rw [hq]; exact wadd a i (by omega)
      have wi : IntKind.i64.wrap ((i : Int) + 1) = ((i + 1 : Nat) : Int) := wadd1 i (by omega)
      simp (maxSteps := 4000000) only [wj, wq]
      obtain ⟨x, hx1, hx2, hx3⟩ := Gm.drop_next (l := X) (i := i) (by omega)
      obtain ⟨y, hy1, hy2, hy3⟩ := Gm.drop_next (l := Y) (i := i) (by omega)
      have hz2 : z = (A ++ Y.take i) ++ x :: ((X.drop (i + 1) ++ (M ++ X.take i)) ++ y :: (Y.drop (i + 1) ++ B)) := by rw [hz, hx2, hy2]; simp only [List.append_assoc, List.cons_append]
      have lx : (X.take i).length = i := by rw [List.length_take]; omega
      have ly : (Y.take i).length = i := by rw [List.length_take]; omega
      obtain ⟨g1, g2, g3, _⟩ := Gm.two_get (i := q) (j := j) hz2 (by rw [List.length_append]; omega) (by simp only [List.length_append, List.length_drop]; omega)
      refine ⟨by kernel_rfl, by omega, by omega, ?_⟩
      simp (maxSteps := 4000000) only [method_specs_simp, seval, g1, g2, encI, wj, wq]
      refine ⟨by omega, by omega, by omega, by omega, by omega, by omega, ?_⟩
      rw [wi]
      refine ⟨by omega, by rw [List.length_set]; omega, ?_⟩
      refine Again.mk (i + 1, (z.set q y).set j x) [0] ⟨h1, by simp only [List.length_set]; exact hzl, ?_⟩ (Nat.sub_lt_sub_left h1 (Nat.lt_succ_self _)) ?_
      · show (z.set q y).set j x = A ++ ((Y.take (i + 1) ++ X.drop (i + 1)) ++ (M ++ ((X.take (i + 1) ++ Y.drop (i + 1)) ++ B)))
        rw [g3, hx3, hy3]
        simp only [List.append_assoc, List.cons_append, List.nil_append]
      · simp only [mvcgen_simp, method_specs_simp, seval]
    · have e : i = k := by simp only [decide_eq_false_iff_not, Bool.not_true, Int.ofNat_lt] at h1; omega
      have e2 : z = l' := by
        rw [hz, h', e, List.drop_eq_nil_of_le (by omega), List.drop_eq_nil_of_le (by omega), List.take_of_length_le (by omega), List.take_of_length_le (by omega)]
        simp only [List.append_nil]
      refine LResY.mk [0] ?_
      simp only [mvcgen_simp, method_specs_simp, seval, e2, hn]
/-- Two neighbours change places: A ++ X ++ Y ++ B to A ++ Y ++ X ++ B. -/
theorem n_rotate {l l' : List Int} {n a m b : Nat} {A X Y B : List Int} (c : FuncId) (dl : List Int) (h : l = A ++ (X ++ (Y ++ B))) (h' : l' = A ++ (Y ++ (X ++ B)))
    (ha : a = A.length) (hm : m = a + X.length) (hb : b = m + Y.length) (hX : X ≠ []) (hY : Y ≠ []) (hn : n = l.length) (hlt : n < 2 ^ 60) :
    LCon P 282 [.ar 0 0 n, .int .i64 a, .int .i64 m, .int .i64 b, .fn c [] [.fptr [.sl 1 (dl.map encI)] 0]] [.arr true 1 (l.map encI)] (.tup []) [.arr true 1 (l'.map encI)] := by
  have hbn : b ≤ n := by rw [hn, h]; simp only [List.length_append]; omega
  have w1 : IntKind.i64.wrap ((m : Int) - (a : Int)) = (X.length : Int) := by rw [wsub m a (by omega) (by omega)]; omega
  have w2 : IntKind.i64.wrap ((b : Int) - (m : Int)) = (Y.length : Int) := by rw [wsub b m (by omega) (by omega)]; omega
  have x1 : 1 ≤ X.length := by cases X with | nil => exact absurd rfl hX | cons _ _ => simp
  have y1 : 1 ≤ Y.length := by cases Y with | nil => exact absurd rfl hY | cons _ _ => simp
  refine LCon.of (n := 58) (rs := []) (Is.fn Try.func282) rfl (Is.call Try.call282) Try.results282 Try.ntmps282 ?_
  simp (maxSteps := 4000000) only [method_specs_simp, seval, w1, w2]
  refine SW.while (A := Nat × Nat × List Int) (fun p => ⟨pad 58 [.ar 0 0 n, .int .i64 a, .int .i64 m, .int .i64 b, .fn c [] [.fptr [.sl 1 (dl.map encI)] 0], .junk, .junk, .junk, .junk, .junk, .int .i64 p.1, .int .i64 p.2.1], [.arr true 1 (p.2.2.map encI)], [.ar 0 0 n, .eptr 0 1 0]⟩)
    (fun p => p.1 + p.2.1) (fun p => 1 ≤ p.1 ∧ 1 ≤ p.2.1 ∧ p.2.2.length = n ∧ ∃ C D E F, p.2.2 = C ++ (D ++ (E ++ F)) ∧ l' = C ++ (E ++ (D ++ F)) ∧ p.1 = D.length ∧ p.2.1 = E.length ∧ m = C.length + p.1) (X.length, Y.length, l) [0]
    ⟨x1, y1, hn.symm, A, X, Y, B, h, h', rfl, rfl, by rw [hm, ha]⟩ ?_ ?_
  · simp only [mvcgen_simp, method_specs_simp, seval]
    exact hn
  · rintro ⟨i, j, z⟩ ⟨hi, hj, hzl, C, D, E, F, hz, hz', hD, hE, hm'⟩
    simp only at hi hj hzl hz hD hE hm'
    have hlen : z.length = C.length + (D.length + (E.length + F.length)) := by rw [hz]; simp only [List.length_append]
    have wi : IntKind.i64.wrap ((m : Int) - (i : Int)) = ((m - i : Nat) : Int) := wsub m i (by omega) (by omega)
    refine CW.sound ?_
    simp (maxSteps := 4000000) only [method_specs_simp, seval, hzl]
    by_cases hij : i = j
    · have hne : ((i : Int) != (j : Int)) = false := by rw [hij]; simp
      simp (maxSteps := 4000000) only [method_specs_simp, seval, hne, wi]
      refine clY.live [0] [] (n_swapRange (n := n) (a := m - i) (b := m) (k := i) (l := z) (l' := l') (A := C) (X := D) (M := []) (Y := E) (B := F) c dl hz hz' (by omega) hD (by omega) (by simp only [List.length_nil]; omega) hzl.symm hlt) ?_ (by simp) ?_
      · simp only [mvcgen_simp, method_specs_simp, seval]
      simp (maxSteps := 4000000) only [method_specs_simp, seval]
      refine LResY.mk [0] ?_
      simp only [mvcgen_simp, method_specs_simp, seval, hn]
    · have hne : ((i : Int) != (j : Int)) = true := by simp only [bne_iff_ne, ne_eq]; omega
      simp (maxSteps := 4000000) only [method_specs_simp, seval, hne]
      refine gB_split (fun h1 => ?_) (fun h1 => ?_)
      · simp only [decide_eq_true_eq, gt_iff_lt, Int.ofNat_lt] at h1
        have e1 : D = D.take j ++ D.drop j := (List.take_append_drop _ _).symm
        have l1 : (D.take j).length = j := by rw [List.length_take]; omega
        have l2 : (D.drop j).length = i - j := by rw [List.length_drop]; omega
        have wij : IntKind.i64.wrap ((i : Int) - (j : Int)) = ((i - j : Nat) : Int) := wsub i j (by omega) (by omega)
        rw [wi]
        refine clY.live [0] [] (n_swapRange (n := n) (a := m - i) (b := m) (k := j) (l := z) (l' := C ++ (E ++ (D.drop j ++ (D.take j ++ F)))) (A := C) (X := D.take j) (M := D.drop j) (Y := E) (B := F) c dl (by rw [hz, ← List.append_assoc (D.take j), ← e1]) rfl (by omega) l1.symm hE (by omega) hzl.symm hlt) ?_ (by simp) ?_
        · simp only [mvcgen_simp, method_specs_simp, seval]
        simp (maxSteps := 4000000) only [method_specs_simp, seval, wij]
        refine Again.mk (i - j, j, _) [0] ⟨by show 1 ≤ i - j; omega, hj, ?_, C ++ E, D.drop j, D.take j, F, by rw [List.append_assoc], ?_, l2.symm, l1.symm, ?_⟩ ?_ ?_
        · show (C ++ (E ++ (D.drop j ++ (D.take j ++ F)))).length = n
          simp only [List.length_append, l1, l2]; omega
        · rw [hz']
          conv => lhs; rw [e1]
          simp only [List.append_assoc]
        · show m = (C ++ E).length + (i - j)
          simp only [List.length_append]; omega
        · show i - j + j < i + j; omega
        · simp only [mvcgen_simp, method_specs_simp, seval]
      · simp only [decide_eq_false_iff_not, Bool.not_true, gt_iff_lt, Int.ofNat_lt] at h1
        have e1 : E = E.take (j - i) ++ E.drop (j - i) := (List.take_append_drop _ _).symm
        have l1 : (E.take (j - i)).length = j - i := by rw [List.length_take]; omega
        have l2 : (E.drop (j - i)).length = i := by rw [List.length_drop]; omega
        have wji : IntKind.i64.wrap ((j : Int) - (i : Int)) = ((j - i : Nat) : Int) := wsub j i (by omega) (by omega)
        have wmj : IntKind.i64.wrap (IntKind.i64.wrap ((m : Int) + (j : Int)) - (i : Int)) = ((m + j - i : Nat) : Int) := by rw [wadd m j (by omega)]; exact wsub (m + j) i (by omega) (by omega)
        rw [wi, wmj]
        refine clY.live [0] [] (n_swapRange (n := n) (a := m - i) (b := m + j - i) (k := i) (l := z) (l' := C ++ (E.drop (j - i) ++ (E.take (j - i) ++ (D ++ F)))) (A := C) (X := D) (M := E.take (j - i)) (Y := E.drop (j - i)) (B := F) c dl (by rw [hz, ← List.append_assoc (E.take (j - i)), ← e1]) rfl (by omega) hD l2.symm (by omega) hzl.symm hlt) ?_ (by simp) ?_
        · simp only [mvcgen_simp, method_specs_simp, seval]
        simp (maxSteps := 4000000) only [method_specs_simp, seval, wji]
        refine Again.mk (i, j - i, _) [0] ⟨hi, by show 1 ≤ j - i; omega, ?_, C, E.drop (j - i), E.take (j - i), D ++ F, rfl, ?_, l2.symm, l1.symm, hm'⟩ ?_ ?_
        · show (C ++ (E.drop (j - i) ++ (E.take (j - i) ++ (D ++ F)))).length = n
          simp only [List.length_append, l1, l2]; omega
        · rw [hz']
          conv => lhs; rw [e1]
          simp only [List.append_assoc]
        · show i + (j - i) < i + j; omega
        · simp only [mvcgen_simp, method_specs_simp, seval]
end
end Go.Proofs.Ytkcllejnmpnjfaa
