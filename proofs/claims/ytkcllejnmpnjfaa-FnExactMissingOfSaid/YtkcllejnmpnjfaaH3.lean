/- Sorting in place, stable: merging. Conditions: lengths that fit a machine. (under way) -/
import Derived.Test.YtkcllejnmpnjfaaH2
namespace Go.Proofs.Ytkcllejnmpnjfaa
open Go.Pm
open Go.Gm (LtD ltD StD srtD)
set_option maxRecDepth 10000
set_option linter.unusedSimpArgs false
set_option linter.unusedVariables false
set_option maxHeartbeats 4000000
/-- What a merge is asked: two sorted parts, side by side. -/
structure MG (P : Program) (d : Int → Int) (c : FuncId) (dl : List Int) (l l' : List Int) (n a m b : Nat) (A L R B : List Int) : Prop where
  h : l = A ++ (L ++ (R ++ B))
  h' : l' = A ++ (srtD d (L ++ R) ++ B)
  ha : a = A.length
  hm : m = a + L.length
  hb : b = m + R.length
  l1 : 1 ≤ L.length
  r1 : 1 ≤ R.length
  hL : L.Pairwise (LtD d)
  hR : R.Pairwise (LtD d)
  hs : StD d (L ++ R)
  hc : ∀ x ∈ L ++ R, ∀ y ∈ L ++ R, Con P c [.int .i64 x, .int .i64 y, .fptr [.sl 1 (dl.map encI)] 0] (.int .i64 (cmpI (d x) (d y)))
  hn : n = l.length
  hlt : n < 2 ^ 60
theorem MG.cmp {P : Program} {d : Int → Int} {c : FuncId} {dl l l' : List Int} {n a m b : Nat} {A L R B : List Int} (g : MG P d c dl l l' n a m b A L R B) {x y : Int} (hx : x ∈ L) (hy : y ∈ R) : decide (cmpI (d y) (d x) < 0) = ltD d y x := by
  have h2 : d x = d y → x < y := (List.pairwise_append.1 g.hs).2.2 x hx y hy
  rw [← Gm.behind h2]
  unfold cmpI
  split
  · rename_i h5; simp [h5]
  · rename_i h5
    split <;> simp [h5]
theorem MG.bn {P : Program} {d : Int → Int} {c : FuncId} {dl l l' : List Int} {n a m b : Nat} {A L R B : List Int} (g : MG P d c dl l l' n a m b A L R B) : b ≤ n := by
  have := g.ha; have := g.hm; have := g.hb
  rw [g.hn, g.h]; simp only [List.length_append]; omega
section
variable {P : Program} [Is P]
/-- The middle of two places, as the machine works it out. -/
theorem mid_at (i j : Nat) (h : i + j < 2 ^ 62) : IntKind.i64.wrap ((IntKind.u64.wrap (IntKind.i64.wrap ((i : Int) + (j : Int)))).fdiv (2 ^ min 1 IntKind.u64.bits)) = (((i + j) / 2 : Nat) : Int) := by
  have e1 : IntKind.i64.wrap ((i : Int) + j) = (i : Int) + j := wrap_id (by omega) (by omega)
  have e2 : IntKind.u64.wrap ((i : Int) + j) = (i : Int) + j := by simp [IntKind.wrap, IntKind.bits, IntKind.signed]; omega
  have e3 : ((i : Int) + j).fdiv (2 ^ min 1 IntKind.u64.bits) = (((i + j) / 2 : Nat) : Int) := by
    simp only [IntKind.bits]
    rw [Int.fdiv_eq_ediv_of_nonneg _ (by decide)]
    show ((i : Int) + j) / 2 = _
    omega
  rw [e1, e2, e3]
  exact wrap_id (by omega) (by omega)
theorem n_sym1 {d : Int → Int} (c : FuncId) (dl : List Int) {l l' : List Int} {n a m b : Nat} {A L R B : List Int} (g : MG P d c dl l l' n a m b A L R B) (c1 : L.length = 1) :
    LCon P 258 [.ar 0 0 n, .int .i64 a, .int .i64 m, .int .i64 b, .fn c [] [.fptr [.sl 1 (dl.map encI)] 0]] [.arr true 1 (l.map encI)] (.tup []) [.arr true 1 (l'.map encI)] := by
    have bn := g.bn
    have e1 := g.ha
    have e2 := g.hm
    have e3 := g.hb
    have e4 := g.hlt
    have w1 : IntKind.i64.wrap ((m : Int) - (a : Int)) = (L.length : Int) := by rw [wsub m a (by omega) (by omega)]; omega
    have w2 : IntKind.i64.wrap ((b : Int) - (m : Int)) = (R.length : Int) := by rw [wsub b m (by omega) (by omega)]; omega
    refine LCon.of (n := 220) (rs := []) (Is.fn Try.func258) rfl (Is.call Try.call258) Try.results258 Try.ntmps258 ?_
    simp (maxSteps := 4000000) only [method_specs_simp, seval, w1, w2]
    have d1 : ((L.length : Int) == 1) = true := by rw [c1]; rfl
    simp (maxSteps := 4000000) only [method_specs_simp, seval, d1]
    obtain ⟨x, rfl⟩ : ∃ x, L = [x] := by
      match L, c1 with
      | [x], _ => exact ⟨x, rfl⟩
    have hln := g.hn.symm
    have hlx : l[a]? = some x := by rw [g.h, e1]; exact Gm.get_mid _ _ _
    refine SW.while (A := Nat × Nat) (fun p => ⟨pad 220 [.ar 0 0 n, .int .i64 a, .int .i64 m, .int .i64 b, .fn c [] [.fptr [.sl 1 (dl.map encI)] 0], .junk, .junk, .junk, .junk, .junk, .int .i64 p.1, .int .i64 p.2], [.arr true 1 (l.map encI)], [.ar 0 0 n, .eptr 0 1 0]⟩)
      (fun p => p.2 - p.1) (fun p => m ≤ p.1 ∧ p.1 ≤ p.2 ∧ p.2 ≤ b ∧ (p.1 = m ∨ ∃ y, R[p.1 - 1 - m]? = some y ∧ LtD d y x) ∧ (p.2 = b ∨ ∃ y, R[p.2 - m]? = some y ∧ LtD d x y)) (m, b) [0] ⟨Nat.le_refl _, by show m ≤ b; omega, Nat.le_refl _, .inl rfl, .inl rfl⟩ ?_ ?_
    · simp only [mvcgen_simp, method_specs_simp, seval]
      try exact hln.symm
    · rintro ⟨i, j⟩ ⟨hi, hij, hj, p1, p2⟩
      simp only at hi hij hj p1 p2
      refine CW.sound ?_
      simp (maxSteps := 4000000) only [method_specs_simp, seval, hln]
      refine gB_split (fun h1 => ?_) (fun h1 => ?_)
      · simp only [decide_eq_true_eq, Int.ofNat_lt] at h1
        obtain ⟨k, hk⟩ : ∃ k, k = (i + j) / 2 := ⟨_, rfl⟩
        have wk : IntKind.i64.wrap ((IntKind.u64.wrap (IntKind.i64.wrap ((i : Int) + (j : Int)))).fdiv (2 ^ min 1 IntKind.u64.bits)) = (k : Int) := by rw [hk]; exact mid_at i j (by omega)
        have wk1 : IntKind.i64.wrap ((k : Int) + 1) = ((k + 1 : Nat) : Int) := wadd1 k (by omega)
        obtain ⟨y, hy⟩ : ∃ y, R[k - m]? = some y := ⟨_, List.getElem?_eq_getElem (by omega)⟩
        have hly : l[k]? = some y := by
          rw [g.h, List.getElem?_append_right (by omega), List.getElem?_append_right (by simp only [List.length_singleton]; simp only [List.length_singleton] at e2; omega), List.getElem?_append_left (by simp only [List.length_singleton] at e2 ⊢; omega), ← hy]
          congr 1
          simp only [List.length_singleton] at e2 ⊢; omega
        simp (maxSteps := 4000000) only [wk]
        refine ⟨by kernel_rfl, by omega, by omega, ?_⟩
        simp (maxSteps := 4000000) only [method_specs_simp, seval, hly, hlx, encI, wk]
        refine ⟨by omega, by omega, ?_⟩
        have hyR : y ∈ R := List.mem_of_getElem? hy
        have hle := g.cmp (x := x) (y := y) (by simp) hyR
        refine clY.conC (g.hc y (by simp [hyR]) x (by simp)) rfl (by simp only [method_specs_simp]) ?_
        simp (maxSteps := 4000000) only [method_specs_simp, seval, hle, wk1]
        refine gB_split (fun h2 => ?_) (fun h2 => ?_)
        · refine Again.mk (k + 1, j) [0] ⟨by show m ≤ k + 1; omega, by show k + 1 ≤ j; omega, hj, .inr ⟨y, by show R[k + 1 - 1 - m]? = some y; rw [← hy, Nat.add_sub_cancel], h2⟩, p2⟩ (by show j - (k + 1) < j - i; omega) ?_
          simp only [mvcgen_simp, method_specs_simp, seval]
        · have hne : x ≠ y := fun e => by
            have hnd := g.hs.nodup
            rw [List.nodup_append] at hnd
            exact hnd.2.2 x (by simp) y hyR e
          refine Again.mk (i, k) [0] ⟨hi, by show i ≤ k; omega, by show k ≤ b; omega, p1, .inr ⟨y, hy, Gm.ltD_tot (fun e => hne e.symm) (by unfold LtD; rw [h2]; decide)⟩⟩ (by show k - i < j - i; omega) ?_
          simp only [mvcgen_simp, method_specs_simp, seval]
      · have hij2 : i = j := by simp only [decide_eq_false_iff_not, Bool.not_true, Int.ofNat_lt] at h1; omega
        subst hij2
        simp only [List.length_singleton] at e2
        obtain ⟨t, ht⟩ : ∃ t, t = i - m := ⟨_, rfl⟩
        obtain ⟨u, hu⟩ : ∃ u, u = a + t := ⟨_, rfl⟩
        have wt : IntKind.i64.wrap ((i : Int) - 1) = (u : Int) := by rw [wsub1 i (by omega) (by omega)]; congr 1; omega
        have c2 := Gm.cut_one g.hR (x := x) (t := t) (p1.elim (fun h => .inl (by omega)) fun ⟨y, h3, h4⟩ => .inr ⟨y, by rw [← h3]; congr 1; omega, h4⟩) (p2.elim (fun h => .inl (by omega)) fun ⟨y, h3, h4⟩ => .inr ⟨y, by rw [← h3]; congr 1, h4⟩)
        have hfin : l' = A ++ ((R.take t ++ x :: R.drop t) ++ B) := by rw [g.h', ← Gm.srtD_of (l := [x] ++ R) c2.2 c2.1]
        refine SW.while (A := Nat × List Int) (fun p => ⟨pad 220 [.ar 0 0 n, .int .i64 a, .int .i64 m, .int .i64 b, .fn c [] [.fptr [.sl 1 (dl.map encI)] 0], .junk, .junk, .junk, .junk, .junk, .int .i64 i, .junk, .junk, .int .i64 p.1], [.arr true 1 (p.2.map encI)], [.ar 0 0 n, .eptr 0 1 0]⟩)
          (fun p => b - p.1) (fun p => p.2.length = n ∧ a ≤ p.1 ∧ p.1 ≤ u ∧ p.2 = A ++ (R.take (p.1 - a) ++ x :: (R.drop (p.1 - a) ++ B))) (a, l) [0] ⟨hln, Nat.le_refl _, by show a ≤ u; omega, by show l = A ++ (R.take (a - a) ++ x :: (R.drop (a - a) ++ B)); rw [g.h, Nat.sub_self]; rfl⟩ ?_ ?_
        · simp only [mvcgen_simp, method_specs_simp, seval]
        · rintro ⟨k, z⟩ ⟨hzl, hka, hkt, hz⟩
          simp only at hzl hka hkt hz
          refine CW.sound ?_
          simp (maxSteps := 4000000) only [method_specs_simp, seval, hzl, wt]
          refine gB_split (fun h3 => ?_) (fun h3 => ?_)
          · simp only [decide_eq_true_eq, Int.ofNat_lt] at h3
            obtain ⟨q, hq⟩ : ∃ q, q = k - a := ⟨_, rfl⟩
            rw [← hq] at hz
            obtain ⟨y, hy1, hy2, hy3⟩ := Gm.drop_next (l := R) (i := q) (by omega)
            obtain ⟨k1, hk1⟩ : ∃ k1, k1 = k + 1 := ⟨_, rfl⟩
            have wk : IntKind.i64.wrap ((k : Int) + 1) = (k1 : Int) := by rw [hk1]; exact wadd1 k (by omega)
            have lq : (R.take q).length = q := by rw [List.length_take]; omega
            have hz3 : z = (A ++ R.take q) ++ x :: ([] ++ y :: (R.drop (q + 1) ++ B)) := by rw [hz, hy2]; simp only [List.append_assoc, List.cons_append, List.nil_append]
            obtain ⟨g1, g2, g3, _⟩ := Gm.two_get (i := k) (j := k1) hz3 (by rw [List.length_append]; omega) (by simp only [List.length_append, List.length_nil]; omega)
            simp (maxSteps := 4000000) only [method_specs_simp, seval, wk]
            refine ⟨by kernel_rfl, by omega, by omega, ?_⟩
            simp (maxSteps := 4000000) only [method_specs_simp, seval, g1, g2, encI, wk]
            refine ⟨by omega, by omega, by omega, by omega, by omega, by omega, by omega, by rw [List.length_set]; omega, ?_⟩
            refine Again.mk (k1, (z.set k y).set k1 x) [0] ⟨by simp only [List.length_set]; exact hzl, by show a ≤ k1; omega, by show k1 ≤ u; omega, ?_⟩ (by show b - k1 < b - k; omega) ?_
            · show (z.set k y).set k1 x = A ++ (R.take (k1 - a) ++ x :: (R.drop (k1 - a) ++ B))
              rw [g3, show k1 - a = q + 1 by omega, hy3]
              simp only [List.append_assoc, List.cons_append, List.nil_append]
            · simp only [mvcgen_simp, method_specs_simp, seval]
          · have : k = u := by simp only [decide_eq_false_iff_not, Bool.not_true, Int.ofNat_lt] at h3; omega
            have e9 : z = l' := by
              rw [hz, hfin, show k - a = t by omega]
              simp only [List.append_assoc, List.cons_append]
            refine LResY.mk [0] ?_
            simp only [mvcgen_simp, method_specs_simp, seval, e9, hln]
theorem n_sym2 {d : Int → Int} (c : FuncId) (dl : List Int) {l l' : List Int} {n a m b : Nat} {A L R B : List Int} (g : MG P d c dl l l' n a m b A L R B) (c1 : L.length ≠ 1) (c2 : R.length = 1) :
    LCon P 258 [.ar 0 0 n, .int .i64 a, .int .i64 m, .int .i64 b, .fn c [] [.fptr [.sl 1 (dl.map encI)] 0]] [.arr true 1 (l.map encI)] (.tup []) [.arr true 1 (l'.map encI)] := by
    have bn := g.bn
    have e1 := g.ha
    have e2 := g.hm
    have e3 := g.hb
    have e4 := g.hlt
    have w1 : IntKind.i64.wrap ((m : Int) - (a : Int)) = (L.length : Int) := by rw [wsub m a (by omega) (by omega)]; omega
    have w2 : IntKind.i64.wrap ((b : Int) - (m : Int)) = (R.length : Int) := by rw [wsub b m (by omega) (by omega)]; omega
    refine LCon.of (n := 220) (rs := []) (Is.fn Try.func258) rfl (Is.call Try.call258) Try.results258 Try.ntmps258 ?_
    simp (maxSteps := 4000000) only [method_specs_simp, seval, w1, w2]
    have d1 : ((L.length : Int) == 1) = false := by rw [beq_eq_false_iff_ne]; omega
    have d2 : ((R.length : Int) == 1) = true := by rw [c2]; rfl
    simp (maxSteps := 4000000) only [method_specs_simp, seval, d1, w2, d2]
    obtain ⟨x, rfl⟩ : ∃ x, R = [x] := by
      match R, c2 with
      | [x], _ => exact ⟨x, rfl⟩
    have hln := g.hn.symm
    have hlx : l[m]? = some x := by
      rw [g.h, List.getElem?_append_right (by omega), List.getElem?_append_right (by omega), show m - A.length - L.length = 0 by omega]; rfl
    refine SW.while (A := Nat × Nat) (fun p => ⟨pad 220 [.ar 0 0 n, .int .i64 a, .int .i64 m, .int .i64 b, .fn c [] [.fptr [.sl 1 (dl.map encI)] 0], .junk, .junk, .junk, .junk, .junk, .junk, .junk, .junk, .junk, .int .i64 p.1, .int .i64 p.2], [.arr true 1 (l.map encI)], [.ar 0 0 n, .eptr 0 1 0]⟩)
      (fun p => p.2 - p.1) (fun p => a ≤ p.1 ∧ p.1 ≤ p.2 ∧ p.2 ≤ m ∧ (p.1 = a ∨ ∃ y, L[p.1 - 1 - a]? = some y ∧ LtD d y x) ∧ (p.2 = m ∨ ∃ y, L[p.2 - a]? = some y ∧ LtD d x y)) (a, m) [0] ⟨Nat.le_refl _, by show a ≤ m; omega, Nat.le_refl _, .inl rfl, .inl rfl⟩ ?_ ?_
    · simp only [mvcgen_simp, method_specs_simp, seval]
      try exact hln.symm
    · rintro ⟨i, j⟩ ⟨hi, hij, hj, p1, p2⟩
      simp only at hi hij hj p1 p2
      refine CW.sound ?_
      simp (maxSteps := 4000000) only [method_specs_simp, seval, hln]
      refine gB_split (fun h1 => ?_) (fun h1 => ?_)
      · simp only [decide_eq_true_eq, Int.ofNat_lt] at h1
        obtain ⟨k, hk⟩ : ∃ k, k = (i + j) / 2 := ⟨_, rfl⟩
        have wk : IntKind.i64.wrap ((IntKind.u64.wrap (IntKind.i64.wrap ((i : Int) + (j : Int)))).fdiv (2 ^ min 1 IntKind.u64.bits)) = (k : Int) := by rw [hk]; exact mid_at i j (by omega)
        have wk1 : IntKind.i64.wrap ((k : Int) + 1) = ((k + 1 : Nat) : Int) := wadd1 k (by omega)
        obtain ⟨y, hy⟩ : ∃ y, L[k - a]? = some y := ⟨_, List.getElem?_eq_getElem (by omega)⟩
        have hly : l[k]? = some y := by
          rw [g.h, List.getElem?_append_right (by omega), List.getElem?_append_left (by omega), ← hy, e1]
        simp (maxSteps := 4000000) only [wk]
        refine ⟨by kernel_rfl, by omega, by omega, ?_⟩
        simp (maxSteps := 4000000) only [method_specs_simp, seval, hly, hlx, encI, wk]
        refine ⟨by omega, by omega, ?_⟩
        have hyL : y ∈ L := List.mem_of_getElem? hy
        have hle := g.cmp (x := y) (y := x) hyL (by simp)
        refine clY.conC (g.hc x (by simp) y (by simp [hyL])) rfl (by simp only [method_specs_simp]) ?_
        simp (maxSteps := 4000000) only [method_specs_simp, seval, hle, wk1]
        cases h2 : ltD d x y
        · have hne : y ≠ x := fun e => by
            have hnd := g.hs.nodup
            rw [List.nodup_append] at hnd
            exact hnd.2.2 y hyL x (by simp) e
          simp (maxSteps := 4000000) only [method_specs_simp, seval, h2, wk1]
          refine Again.mk (k + 1, j) [0] ⟨by show a ≤ k + 1; omega, by show k + 1 ≤ j; omega, hj, .inr ⟨y, by show L[k + 1 - 1 - a]? = some y; rw [← hy, Nat.add_sub_cancel], Gm.ltD_tot (fun e => hne e.symm) (by unfold LtD; rw [h2]; decide)⟩, p2⟩ (by show j - (k + 1) < j - i; omega) ?_
          simp only [mvcgen_simp, method_specs_simp, seval]
        · simp (maxSteps := 4000000) only [method_specs_simp, seval, h2, wk1]
          refine Again.mk (i, k) [0] ⟨hi, by show i ≤ k; omega, by show k ≤ m; omega, p1, .inr ⟨y, hy, h2⟩⟩ (by show k - i < j - i; omega) ?_
          simp only [mvcgen_simp, method_specs_simp, seval]
      · have hij2 : i = j := by simp only [decide_eq_false_iff_not, Bool.not_true, Int.ofNat_lt] at h1; omega
        subst hij2
        obtain ⟨t, ht⟩ : ∃ t, t = i - a := ⟨_, rfl⟩
        have c3 := Gm.cut_one g.hL (x := x) (t := t) (p1.elim (fun h => .inl (by omega)) fun ⟨y, h3, h4⟩ => .inr ⟨y, by rw [← h3]; congr 1; omega, h4⟩) (p2.elim (fun h => .inl (by omega)) fun ⟨y, h3, h4⟩ => .inr ⟨y, by rw [← h3]; congr 1, h4⟩)
        have hfin : l' = A ++ ((L.take t ++ x :: L.drop t) ++ B) := by rw [g.h', ← Gm.srtD_of (l := L ++ [x]) (c3.2.trans (List.perm_append_singleton x L).symm) c3.1]
        refine SW.while (A := Nat × List Int) (fun p => ⟨pad 220 [.ar 0 0 n, .int .i64 a, .int .i64 m, .int .i64 b, .fn c [] [.fptr [.sl 1 (dl.map encI)] 0], .junk, .junk, .junk, .junk, .junk, .junk, .junk, .junk, .junk, .int .i64 i, .junk, .junk, .int .i64 p.1], [.arr true 1 (p.2.map encI)], [.ar 0 0 n, .eptr 0 1 0]⟩)
          (fun p => p.1) (fun p => p.2.length = n ∧ i ≤ p.1 ∧ p.1 ≤ m ∧ p.2 = A ++ (L.take (p.1 - a) ++ x :: (L.drop (p.1 - a) ++ B))) (m, l) [0] ⟨hln, by show i ≤ m; omega, Nat.le_refl _, by show l = A ++ (L.take (m - a) ++ x :: (L.drop (m - a) ++ B)); rw [g.h, List.take_of_length_le (by omega), List.drop_eq_nil_of_le (by omega)]; rfl⟩ ?_ ?_
        · simp only [mvcgen_simp, method_specs_simp, seval]
        · rintro ⟨k, z⟩ ⟨hzl, hka, hkt, hz⟩
          simp only at hzl hka hkt hz
          refine CW.sound ?_
          simp (maxSteps := 4000000) only [method_specs_simp, seval, hzl]
          refine gB_split (fun h3 => ?_) (fun h3 => ?_)
          · simp only [decide_eq_true_eq, gt_iff_lt, Int.ofNat_lt] at h3
            obtain ⟨k1, hk1⟩ : ∃ k1, k1 = k - 1 := ⟨_, rfl⟩
            obtain ⟨q, hq⟩ : ∃ q, q = k1 - a := ⟨_, rfl⟩
            obtain ⟨y, hy1, hy2, hy3⟩ := Gm.drop_next (l := L) (i := q) (by omega)
            rw [show k - a = q + 1 by omega, hy3] at hz
            have wk : IntKind.i64.wrap ((k : Int) - 1) = (k1 : Int) := by rw [hk1]; exact wsub1 k (by omega) (by omega)
            have lq : (L.take q).length = q := by rw [List.length_take]; omega
            have hz3 : z = (A ++ L.take q) ++ y :: ([] ++ x :: (L.drop (q + 1) ++ B)) := by rw [hz]; simp only [List.append_assoc, List.cons_append, List.nil_append]
            obtain ⟨g1, g2, _, g3⟩ := Gm.two_get (i := k1) (j := k) hz3 (by rw [List.length_append]; omega) (by simp only [List.length_append, List.length_nil]; omega)
            simp (maxSteps := 4000000) only [method_specs_simp, seval, wk]
            refine ⟨by kernel_rfl, by omega, by omega, ?_⟩
            simp (maxSteps := 4000000) only [method_specs_simp, seval, g1, g2, encI, wk]
            refine ⟨by omega, by omega, by omega, by omega, by omega, by omega, by omega, by rw [List.length_set]; omega, ?_⟩
            refine Again.mk (k1, (z.set k y).set k1 x) [0] ⟨by simp only [List.length_set]; exact hzl, by show i ≤ k1; omega, by show k1 ≤ m; omega, ?_⟩ (by show k1 < k; omega) ?_
            · show (z.set k y).set k1 x = A ++ (L.take (k1 - a) ++ x :: (L.drop (k1 - a) ++ B))
              rw [g3, ← hq, hy2]
              simp only [List.append_assoc, List.cons_append, List.nil_append]
            · simp only [mvcgen_simp, method_specs_simp, seval]
          · have : k = i := by simp only [decide_eq_false_iff_not, Bool.not_true, gt_iff_lt, Int.ofNat_lt] at h3; omega
            have e9 : z = l' := by
              rw [hz, hfin, show k - a = t by omega]
              simp only [List.append_assoc, List.cons_append]
            refine LResY.mk [0] ?_
            simp only [mvcgen_simp, method_specs_simp, seval, e9, hln]
end
end Go.Proofs.Ytkcllejnmpnjfaa
