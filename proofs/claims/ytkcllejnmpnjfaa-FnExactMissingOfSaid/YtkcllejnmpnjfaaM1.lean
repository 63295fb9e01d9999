/- Rising lists of numbers: the reference's insertion; the library's Compact; the program's sorted. Conditions: lengths that fit a machine. -/
import Derived.Test.YtkcllejnmpnjfaaE1
import Derived.Test.YtkcllejnmpnjfaaK1
namespace Go.Proofs.Ytkcllejnmpnjfaa
open Go.Pm
set_option maxRecDepth 10000
set_option linter.unusedSimpArgs false
set_option linter.unusedVariables false
def lessI (l : List Int) (n : Int) : Nat := (l.takeWhile fun y => decide (y < n)).length
def setI (l : List Int) (n : Int) : List Int := if l[lessI l n]? = some n then l else l.take (lessI l n) ++ n :: l.drop (lessI l n)
theorem lessI_le (l : List Int) (n : Int) : lessI l n ≤ l.length := Gm.takeWhile_length_le _ l
theorem setI_len (l : List Int) (n : Int) : (setI l n).length ≤ l.length + 1 := by
  unfold setI
  split
  · omega
  · have := lessI_le l n
    simp only [List.length_append, List.length_cons, List.length_take, List.length_drop]; omega
/-- What the loop has passed. -/
theorem lessI_at {l : List Int} {n : Int} {i : Nat} (hr : lessI l n = i + ((l.drop i).takeWhile fun y => decide (y < n)).length) (hi : i < l.length) {y : Int} (hy : l[i]? = some y) :
    (y < n ∧ lessI l n = (i + 1) + ((l.drop (i + 1)).takeWhile fun y => decide (y < n)).length) ∨ (¬ y < n ∧ lessI l n = i) := by
  have hd : l.drop i = y :: l.drop (i + 1) := by
    rw [List.drop_eq_getElem_cons hi]
    rw [List.getElem?_eq_getElem hi] at hy
    injection hy with hy
    rw [hy]
  rw [hd, List.takeWhile_cons] at hr
  by_cases h : y < n
  · rw [if_pos (by simpa using h), List.length_cons] at hr
    exact .inl ⟨h, by omega⟩
  · rw [if_neg (by simpa using h), List.length_nil] at hr
    exact .inr ⟨h, by omega⟩
section
variable {P : Program} [Is P]
theorem c_l03Set (l : List Int) (n : Int) (hl : l.length * 8 < 2 ^ 46) : Con P 172 [.sl 1 (l.map encI), .int .i64 n] (.sl 1 ((setI l n).map encI)) := by
  refine Con.of (n := 48) (rs := [.tmp 4]) (Is.fn Try.func172) rfl (Is.call Try.call172) Try.results172 Try.ntmps172 (by simp only [method_specs_simp]) ?_
  simp (maxSteps := 4000000) only [method_specs_simp, seval, ← List.map_take, ← List.map_drop, List.take_length]
  refine SW.while (A := Nat) (fun i => ⟨pad 48 [.sl 1 (l.map encI), .int .i64 n, .junk, .junk, .junk, .int .i64 i], [], []⟩) (fun i => l.length - i) (fun i => i ≤ l.length ∧ lessI l n = i + ((l.drop i).takeWhile fun y => decide (y < n)).length) 0 [] ⟨Nat.zero_le _, by simp [lessI]⟩ ?_ ?_
  · simp only [mvcgen_simp, method_specs_simp, seval, ← List.map_take, ← List.map_drop, List.take_length]
  · rintro i ⟨hi, hr⟩
    have w1 : IntKind.i64.wrap ((i : Int) + 1) = ((i + 1 : Nat) : Int) := wadd1 i (by omega)
    have hlt : (l.take i).length = i := by rw [List.length_take]; omega
    have hld : (l.drop i).length = l.length - i := List.length_drop ..
    have hall : (l.take i).map encI ++ [[V.int .i64 n]] ++ (l.drop i).map encI = (l.take i ++ n :: l.drop i).map encI := by rw [List.map_append, List.map_cons, List.append_assoc]; rfl
    have hlen : i + 1 + (l.length - i) = (l.take i ++ n :: l.drop i).length := by rw [List.length_append, List.length_cons, hlt, hld]; omega
    refine CW.sound ?_
    simp (maxSteps := 4000000) only [method_specs_simp, seval, ← List.map_take, ← List.map_drop, List.take_length]
    refine gB_split (fun h => ?_) (fun h => ?_)
    · simp only [decide_eq_true_eq, Int.ofNat_lt] at h
      obtain ⟨y, hy⟩ : ∃ y, l[i]? = some y := ⟨_, List.getElem?_eq_getElem h⟩
      simp (maxSteps := 4000000) only [method_specs_simp, seval, ← List.map_take, ← List.map_drop, List.take_length, hy, encI]
      refine ⟨by omega, by omega, ?_⟩
      rcases lessI_at hr h hy with ⟨h1, h2⟩ | ⟨h1, h2⟩
      · have e1 : decide (y < n) = true := by simpa using h1
        simp (maxSteps := 4000000) only [method_specs_simp, seval, ← List.map_take, ← List.map_drop, List.take_length, e1]
        refine Again.mk (i + 1) [] ⟨h, h2⟩ (Nat.sub_lt_sub_left h (Nat.lt_succ_self _)) ?_
        simp only [mvcgen_simp, method_specs_simp, seval, ← List.map_take, ← List.map_drop, List.take_length, w1]
      · have e1 : decide (y < n) = false := by simpa using h1
        have e2 : decide ((i : Int) < (l.length : Int)) = true := by simpa using h
        simp (maxSteps := 4000000) only [method_specs_simp, seval, ← List.map_take, ← List.map_drop, List.take_length, e1, e2, hy, encI]
        refine ⟨by omega, by omega, ?_⟩
        refine gB_split (fun h3 => ?_) (fun h3 => ?_)
        · have h4 : setI l n = l := by unfold setI; rw [h2, hy, eq_of_beq h3, if_pos rfl]
          rw [h4]
        · have h5 : y ≠ n := fun e => by subst e; simp at h3
          have h4 : setI l n = l.take i ++ n :: l.drop i := by unfold setI; rw [h2, hy, if_neg (fun e => h5 (Option.some.inj e))]
          simp (maxSteps := 4000000) only [method_specs_simp, seval, ← List.map_take, ← List.map_drop, List.take_length, hlt, hld]
          repeat (refine ⟨by omega, ?_⟩)
          rw [hall, h4, hlen, List.take_of_length_le (by rw [List.length_map]; exact Nat.le_refl _)]
          simp (maxSteps := 4000000) only [method_specs_simp, seval, ← List.map_take, ← List.map_drop, List.take_length]
    · have e2 : decide ((i : Int) < (l.length : Int)) = false := by simpa using h
      have hi2 : i = l.length := by simp only [decide_eq_false_iff_not, Bool.not_true, Int.ofNat_lt] at h; omega
      have h2 : lessI l n = i := by rw [hr, hi2, List.drop_length]; simp
      have h4 : setI l n = l.take i ++ n :: l.drop i := by unfold setI; rw [h2, hi2, List.getElem?_eq_none (Nat.le_refl _), if_neg (by simp)]
      simp (maxSteps := 4000000) only [method_specs_simp, seval, ← List.map_take, ← List.map_drop, List.take_length, e2, hlt, hld]
      repeat (refine ⟨by omega, ?_⟩)
      rw [hall, h4, hlen, List.take_of_length_le (by rw [List.length_map]; exact Nat.le_refl _)]
      simp (maxSteps := 4000000) only [method_specs_simp, seval, ← List.map_take, ← List.map_drop, List.take_length]
end
/-! ### one of each, out of a row that rises -/
def ddF : Option Int → List Int → List Int
  | _, [] => []
  | p, x :: l => if p = some x then ddF p l else x :: ddF (some x) l
def dd (l : List Int) : List Int := ddF none l
theorem ddF_snoc : ∀ (l : List Int) (p : Option Int) (x : Int), ddF p (l ++ [x]) = ddF p l ++ (if l.getLast?.or p = some x then [] else [x])
  | [], p, x => by
    have h : ([] : List Int).getLast?.or p = p := by cases p <;> rfl
    rw [h]
    simp only [List.nil_append, ddF]
  | y :: l, p, x => by
    have hlast : ∀ q : Option Int, (y :: l).getLast?.or q = l.getLast?.or (some y) := fun q => by
      cases l with
      | nil => rfl
      | cons z l => rw [List.getLast?_cons_cons]; cases h : (z :: l).getLast? with
        | none => simp at h
        | some v => rfl
    rw [hlast, List.cons_append]
    simp only [ddF]
    split
    · rename_i h
      subst h
      rw [ddF_snoc l (some y) x]
    · rw [ddF_snoc l (some y) x, List.cons_append]
theorem ddF_len : ∀ (l : List Int) (p : Option Int), (ddF p l).length ≤ l.length
  | [], _ => Nat.le_refl _
  | x :: l, p => by
    simp only [ddF]
    split
    · have := ddF_len l p; simp only [List.length_cons]; omega
    · have := ddF_len l (some x); simp only [List.length_cons]; omega
theorem dd_next {l : List Int} {j : Nat} {x y : Int} (hy : l[j]? = some y) (hx : l[j + 1]? = some x) : dd (l.take (j + 2)) = dd (l.take (j + 1)) ++ (if y = x then [] else [x]) := by
  have h1 : l.take (j + 2) = l.take (j + 1) ++ [x] := by rw [List.take_add_one, hx]; rfl
  have h2 : (l.take (j + 1)).getLast? = some y := by rw [List.take_add_one, hy]; simp
  rw [h1, dd, ddF_snoc, h2]
  simp only [Option.some_or, Option.some.injEq]; rfl
theorem dd_one (l : List Int) (h : l.length ≤ 1) : dd l = l := by
  match l, h with
  | [], _ => rfl
  | [x], _ => rfl
/-- The row in the midst of the squeezing: what is kept, then what was there. -/
def sqz (W l : List Int) : List Int := W ++ l.drop W.length
theorem sqz_len {W l : List Int} (h : W.length ≤ l.length) : (sqz W l).length = l.length := by unfold sqz; rw [List.length_append, List.length_drop]; omega
theorem sqz_get {W l : List Int} {i : Nat} (h : W.length ≤ i) : (sqz W l)[i]? = l[i]? := by
  unfold sqz
  rw [List.getElem?_append_right h, List.getElem?_drop, show W.length + (i - W.length) = i by omega]
theorem sqz_set {W l : List Int} {x : Int} (h : W.length < l.length) : (sqz W l).set W.length x = sqz (W ++ [x]) l := by
  unfold sqz
  rw [List.set_append_right _ _ (Nat.le_refl _), Nat.sub_self, List.drop_eq_getElem_cons h, List.set_cons_zero, List.length_append, List.append_assoc]; rfl
theorem sqz_take {l : List Int} {k : Nat} (h : k ≤ l.length) : sqz (l.take k) l = l := by
  unfold sqz
  rw [List.length_take, Nat.min_eq_left h, List.take_append_drop]
def padZ (l : List Int) (n : Nat) : List Int := l ++ List.replicate (n - l.length) 0
theorem padZ_map (l : List Int) (n : Nat) : l.map encI ++ List.replicate (n - l.length) [V.int .i64 0] = (padZ l n).map encI := by unfold padZ; rw [List.map_append, List.map_replicate]; rfl
theorem padZ_len {l : List Int} {n : Nat} (h : l.length ≤ n) : (padZ l n).length = n := by unfold padZ; rw [List.length_append, List.length_replicate]; omega
theorem padZ_same {l : List Int} {n : Nat} (h : l.length = n) : padZ l n = l := by unfold padZ; rw [h, Nat.sub_self]; simp
section
variable {P : Program} [Is P]
theorem n_compact (l : List Int) (n : Nat) (hn : l.length = n) (hl : n < 2 ^ 60) : LCon P 233 [.ar 0 0 n] [.arr true 1 (l.map encI)] (.ar 0 0 (dd l).length) [.arr true 1 ((padZ (dd l) n).map encI)] := by
  refine LCon.of (n := 61) (rs := [.tmp 2]) (Is.fn Try.func233) rfl (Is.call Try.call233) Try.results233 Try.ntmps233 ?_
  simp (maxSteps := 4000000) only [method_specs_simp, seval]
  refine gB_split (fun h => ?_) (fun h => ?_)
  · simp only [decide_eq_true_eq] at h
    have h1 : dd l = l := dd_one l (by omega)
    rw [h1, padZ_same hn, hn]
    refine LResY.mk [0] ?_
    simp only [mvcgen_simp, method_specs_simp, seval, hn]
  · have h2 : 2 ≤ n := by simp only [decide_eq_false_iff_not, Bool.not_true] at h; omega
    refine SW.while (A := Nat) (fun k => ⟨pad 61 [.ar 0 0 n, .junk, .nil, .int .i64 (k + 1 : Nat)], [.arr true 1 (l.map encI)], [.ar 0 0 l.length, .eptr 0 1 0]⟩) (fun k => n - k) (fun k => k + 1 ≤ n ∧ dd (l.take (k + 1)) = l.take (k + 1)) 0 [0] ⟨by omega, dd_one _ (by rw [List.length_take]; omega)⟩ ?_ ?_
    · simp only [mvcgen_simp, method_specs_simp, seval]
    · rintro k ⟨hk, hd⟩
      have w1 : IntKind.i64.wrap ((k : Int) + 1 + 1) = (k : Int) + 1 + 1 := wrap_id (by omega) (by omega)
      have tn : ((k : Int) + 1).toNat = k + 1 := by omega
      have w2 : IntKind.i64.wrap ((k : Int) + 1 - 1) = (k : Int) := by rw [wrap_id (by omega) (by omega)]; omega
      refine CW.sound ?_
      simp (maxSteps := 4000000) only [method_specs_simp, seval, hn, tn, w2]
      refine gB_split (fun hlt => ?_) (fun hlt => ?_)
      · simp only [decide_eq_true_eq] at hlt
        have hlt : k + 1 < n := by omega
        obtain ⟨x, hx⟩ : ∃ x, l[k + 1]? = some x := ⟨_, List.getElem?_eq_getElem (by omega)⟩
        obtain ⟨y, hy⟩ : ∃ y, l[k]? = some y := ⟨_, List.getElem?_eq_getElem (by omega)⟩
        have hnx := dd_next hy hx
        refine ⟨by kernel_rfl, by omega, by omega, ?_⟩
        simp (maxSteps := 4000000) only [method_specs_simp, seval, hx, hy, encI, hn, w2]
        refine ⟨by omega, by omega, ?_⟩
        refine gB_split (fun he => ?_) (fun he => ?_)
        · have he2 : y = x := (eq_of_beq he).symm
          rw [if_pos he2, List.append_nil, hd] at hnx
          simp (maxSteps := 4000000) only [method_specs_simp, seval, hn, tn]
          refine ⟨by omega, by omega, by omega, ?_⟩
          have hW0 : dd (l.take (k + 2 + 0)) = l.take (k + 1) := hnx
          refine SW.while (A := Nat) (fun m => ⟨pad 61 [.ar 0 0 n, .junk, .nil, .int .i64 (dd (l.take (k + 2 + m))).length, .ar 0 (k + 1) (n - (k + 1)), .int .i64 (m + 1 : Nat)], [.arr true 1 ((sqz (dd (l.take (k + 2 + m))) l).map encI)], [.ar 0 0 n, .eptr 0 1 0]⟩) (fun m => n - m) (fun m => k + 2 + m ≤ n ∧ (dd (l.take (k + 2 + m))).length ≤ k + 1 + m) 0 [0] ⟨by omega, by rw [hW0, List.length_take]; omega⟩ ?_ ?_
          · rw [hW0, sqz_take (by omega), List.length_take, Nat.min_eq_left (by omega : k + 1 ≤ l.length)]
            simp only [mvcgen_simp, method_specs_simp, seval]
          · rintro m ⟨hm, hWl⟩
            obtain ⟨W, hW⟩ : ∃ W, W = dd (l.take (k + 2 + m)) := ⟨_, rfl⟩
            rw [← hW] at hWl
            have hsl : (sqz W l).length = n := by rw [sqz_len (by omega), hn]
            have w3 : IntKind.i64.wrap ((m : Int) + 1 - 1) = (m : Int) := by rw [wrap_id (by omega) (by omega)]; omega
            have w4 : IntKind.i64.wrap ((m : Int) + 1 + 1) = (m : Int) + 1 + 1 := wrap_id (by omega) (by omega)
            have w5 : IntKind.i64.wrap ((W.length : Int) + 1) = (W.length : Int) + 1 := wrap_id (by omega) (by omega)
            have tm : ((m : Int) + 1).toNat = m + 1 := by omega
            refine CW.sound ?_
            simp (maxSteps := 4000000) only [method_specs_simp, seval, hn, ← hW, hsl, w3, tm]
            refine gB_split (fun hl2 => ?_) (fun hl2 => ?_)
            · simp only [decide_eq_true_eq] at hl2
              have hl3 : k + 1 + (m + 1) < n := by omega
              obtain ⟨x2, hx2⟩ : ∃ x, l[k + 1 + (m + 1)]? = some x := ⟨_, List.getElem?_eq_getElem (by omega)⟩
              obtain ⟨y2, hy2⟩ : ∃ y, l[k + 1 + m]? = some y := ⟨_, List.getElem?_eq_getElem (by omega)⟩
              have hq1 : (sqz W l)[k + 1 + (m + 1)]? = some x2 := by rw [sqz_get (by omega), hx2]
              have hq2 : (sqz W l)[k + 1 + m]? = some y2 := by rw [sqz_get (by omega), hy2]
              have hn2 := dd_next hy2 (by rw [← hx2]; rfl)
              rw [show k + 1 + m + 2 = k + 2 + (m + 1) by omega, show k + 1 + m + 1 = k + 2 + m by omega, ← hW] at hn2
              refine ⟨by kernel_rfl, by omega, by omega, ?_⟩
              simp (maxSteps := 4000000) only [method_specs_simp, seval, hq1, hq2, encI, hsl, w3]
              refine ⟨by omega, by omega, ?_⟩
              refine gB_split (fun hne => ?_) (fun hne => ?_)
              · have hne2 : y2 ≠ x2 := fun e => by subst e; simp at hne
                rw [if_neg hne2] at hn2
                have hst := sqz_set (W := W) (l := l) (x := x2) (by omega)
                simp (maxSteps := 4000000) only [method_specs_simp, seval, hq1, tm, encI, hsl, w4, w5]
                refine ⟨by omega, by omega, by omega, by omega, by omega, ?_⟩
                rw [hst]
                refine Again.mk (m + 1) [0] ⟨by omega, by rw [hn2, List.length_append]; simp only [List.length_cons, List.length_nil]; omega⟩ (by omega) ?_
                rw [hn2]
                simp only [mvcgen_simp, method_specs_simp, seval]
              · have he3 : y2 = x2 := by simp only [Bool.not_true, bne_eq_false_iff_eq] at hne; exact hne.symm
                rw [if_pos he3, List.append_nil] at hn2
                refine Again.mk (m + 1) [0] ⟨by omega, by rw [hn2]; omega⟩ (by omega) ?_
                rw [hn2]
                simp only [mvcgen_simp, method_specs_simp, seval, w4]
            · have hm2 : k + 2 + m = n := by simp only [decide_eq_false_iff_not, Bool.not_true] at hl2; omega
              have hWd : dd l = W := by rw [hW, hm2, List.take_of_length_le (by omega)]
              have e1 : List.take W.length (List.map encI (sqz W l)) = W.map encI := by unfold sqz; rw [List.map_append, List.take_left' (List.length_map _)]
              have e2 : List.drop (W.length + (n - W.length)) (List.map encI (sqz W l)) = [] := List.drop_eq_nil_of_le (by rw [List.length_map, hsl]; omega)
              refine ⟨by omega, by omega, by omega, by omega, by omega, ?_⟩
              have hpl : (padZ W n).length = n := padZ_len (by omega)
              rw [e1, e2, List.append_nil, hWd, Nat.sub_zero, padZ_map]
              refine LResY.mk [0] ?_
              simp only [mvcgen_simp, method_specs_simp, seval, hn, hpl]
        · have he2 : y ≠ x := fun e => by subst e; simp at he
          rw [if_neg he2, hd] at hnx
          refine Again.mk (k + 1) [0] ⟨hlt, ?_⟩ (by omega) ?_
          · rw [hnx, List.take_add_one (i := k + 1), hx]; rfl
          · simp only [mvcgen_simp, method_specs_simp, seval, w1]
      · have hk2 : k + 1 = n := by simp only [decide_eq_false_iff_not, Bool.not_true] at hlt; omega
        have h1 : dd l = l := by rw [List.take_of_length_le (by omega)] at hd; exact hd
        rw [h1, padZ_same hn, hn]
        refine LResY.mk [0] ?_
        simp only [mvcgen_simp, method_specs_simp, seval, hn]
theorem b_sort : bodyOK P 232 = true := Is.on (fun P => bodyOK P 232 = true) (by kernel_rfl)
def srtI (l : List Int) : List Int := l.mergeSort fun x y => decide (x ≤ y)
theorem srtI_len (l : List Int) : (srtI l).length = l.length := (List.mergeSort_perm _ _).length_eq
theorem n_sorted (l : List Int) (n : Nat) (hn : l.length = n) (hl : n < 2 ^ 60) : LCon P 175 [.ar 0 0 n] [.arr true 1 (l.map encI)] (.ar 0 0 (dd (srtI l)).length) [.arr true 1 ((padZ (dd (srtI l)) n).map encI)] := by
  have hsl := (srtI_len l).trans hn
  have hse : LCon P 232 [.ar 0 0 n] [.arr true 1 (l.map encI)] (.tup []) [.arr true 1 ((srtI l).map encI)] := by
    subst hn
    exact LCon.sortI (l := l) (by omega) b_sort k_sortI k_sortI0
  refine LCon.of (n := 7) (rs := [.tmp 2]) (Is.fn Try.func175) rfl (Is.call Try.call175) Try.results175 Try.ntmps175 ?_
  simp (maxSteps := 4000000) only [method_specs_simp, seval]
  refine clY.live [0] [] hse ?_ (by simp) ?_
  · simp only [mvcgen_simp, method_specs_simp, seval]
  obtain ⟨s, hs⟩ : ∃ s, s = srtI l := ⟨_, rfl⟩
  rw [← hs] at hsl ⊢
  simp (maxSteps := 4000000) only [method_specs_simp, seval]
  refine clY.live [0] [] (n_compact s n hsl hl) ?_ (by simp) ?_
  · simp only [mvcgen_simp, method_specs_simp, seval]
  simp (maxSteps := 4000000) only [method_specs_simp, seval]
  have hpl : (padZ (dd s) n).length = n := padZ_len (by rw [← hsl]; exact ddF_len _ _)
  refine LResY.mk [0] ?_
  simp only [mvcgen_simp, method_specs_simp, seval, hpl, hn]
end
end Go.Proofs.Ytkcllejnmpnjfaa
