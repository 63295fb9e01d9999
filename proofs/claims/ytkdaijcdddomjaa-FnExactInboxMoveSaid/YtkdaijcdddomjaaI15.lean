/- InboxMove of the reference and of the program. No conditions but lengths and bounds of numbers. -/
import Derived.Test.YtkdaijcdddomjaaI13
namespace Go.Proofs.Ytkdaijcdddomjaa
open Go.Pm
set_option maxRecDepth 10000
set_option linter.unusedSimpArgs false
/-- The notes of a box, put behind a number. -/
def mv : Int → List Note → List Note
  | _, [] => []
  | n, x :: xs => ⟨n + 1, x.frm, x.text⟩ :: mv (n + 1) xs
theorem mv_length : ∀ (xs : List Note) (n : Int), (mv n xs).length = xs.length
  | [], n => rfl
  | x :: xs, n => by simp [mv, mv_length xs]
theorem mv_snoc : ∀ (xs : List Note) (n : Int) (x : Note), mv n (xs ++ [x]) = mv n xs ++ [⟨n + xs.length + 1, x.frm, x.text⟩]
  | [], n, x => by simp [mv]
  | y :: xs, n, x => by
    simp only [List.cons_append, mv, mv_snoc xs, List.length_cons]
    congr 4
    push_cast
    omega
def mvOk (na : Int) (us : List Note) (nb : Int) (bs : List Note) : Bool := specOk na us && specOk nb bs
def mvFull (na : Int) (us bs : List Note) : Bool := decide ((us.length : Int) + bs.length > 30) || decide (na + bs.length > 1000000)
section
variable {P : Program} [Is P]
theorem c35x (na nb : Int) (us bs : List Note) (ha : us.length < 2 ^ 62) (hb : bs.length < 2 ^ 62) (ok : mvOk na us nb bs = false) : Con P 35 [.agg [.int .i64 na, .sl 3 (us.map encNote)], .agg [.int .i64 nb, .sl 3 (bs.map encNote)]] (.agg (errCells 1)) := by
  refine Con.of (n := 62) (rs := [.cell 4 42]) (Is.fn Try.func35) rfl (Is.call Try.call35) Try.results35 Try.ntmps35 (by simp only [method_specs_simp, errCells]) ?_
  simp (maxSteps := 4000000) only [method_specs_simp, seval]
  refine clY.con (c16 _ _ ha) (by simp only [method_specs_simp]) ?_
  simp (maxSteps := 4000000) only [method_specs_simp, seval]
  unfold mvOk at ok
  cases oa : specOk na us with
  | false =>
    simp (maxSteps := 4000000) only [method_specs_simp, seval]
    refine clY.con (c93 1) (by simp only [method_specs_simp]) ?_
    simp (maxSteps := 4000000) only [method_specs_simp, seval, errCells]
  | true =>
    rw [oa, Bool.true_and] at ok
    simp (maxSteps := 4000000) only [method_specs_simp, seval]
    refine clY.con (c16 _ _ hb) (by simp only [method_specs_simp]) ?_
    simp (maxSteps := 4000000) only [method_specs_simp, seval, ok]
    refine clY.con (c93 1) (by simp only [method_specs_simp]) ?_
    simp (maxSteps := 4000000) only [method_specs_simp, seval, errCells]
theorem c36x (na nb : Int) (us bs : List Note) (ha : us.length < 2 ^ 62) (hb : bs.length < 2 ^ 62) (ok : mvOk na us nb bs = false) : Con P 36 [.agg [.int .i64 na, .sl 3 (us.map encNote)], .agg [.int .i64 nb, .sl 3 (bs.map encNote)]] (.agg (errCells 1)) := by
  refine Con.of (n := 56) (rs := [.cell 4 42]) (Is.fn Try.func36) rfl (Is.call Try.call36) Try.results36 Try.ntmps36 (by simp only [method_specs_simp, errCells]) ?_
  simp (maxSteps := 4000000) only [method_specs_simp, seval]
  refine clY.con (c18 _ _ ha) (by simp only [method_specs_simp]) ?_
  rw [← spec_impl]
  simp (maxSteps := 4000000) only [method_specs_simp, seval]
  unfold mvOk at ok
  cases oa : specOk na us with
  | false => simp (maxSteps := 4000000) only [method_specs_simp, seval, errCells]
  | true =>
    rw [oa, Bool.true_and] at ok
    simp (maxSteps := 4000000) only [method_specs_simp, seval]
    refine clY.con (c18 _ _ hb) (by simp only [method_specs_simp]) ?_
    rw [← spec_impl]
    simp (maxSteps := 4000000) only [method_specs_simp, seval, ok, errCells]
theorem mv_bounds {na nb : Int} {us bs : List Note} (ok : mvOk na us nb bs = true) : 0 ≤ na ∧ na ≤ 1000000 ∧ us.length ≤ 30 ∧ bs.length ≤ 30 ∧ specOk na us = true ∧ specOk nb bs = true := by
  unfold mvOk at ok
  obtain ⟨h1, h2⟩ := Bool.and_eq_true_iff.1 ok
  obtain ⟨a1, a2, a3⟩ := bounds_of h1
  obtain ⟨b1, b2, b3⟩ := bounds_of h2
  exact ⟨a1, a2, a3, b3, h1, h2⟩
theorem c35f (na nb : Int) (us bs : List Note) (ok : mvOk na us nb bs = true) (hf : mvFull na us bs = true) : Con P 35 [.agg [.int .i64 na, .sl 3 (us.map encNote)], .agg [.int .i64 nb, .sl 3 (bs.map encNote)]] (.agg (errCells 9)) := by
  obtain ⟨a1, a2, a3, b3, oa, ob⟩ := mv_bounds ok
  refine Con.of (n := 62) (rs := [.cell 4 42]) (Is.fn Try.func35) rfl (Is.call Try.call35) Try.results35 Try.ntmps35 (by simp only [method_specs_simp, errCells]) ?_
  simp (maxSteps := 4000000) only [method_specs_simp, seval]
  refine clY.con (c16 _ _ (by omega)) (by simp only [method_specs_simp]) ?_
  simp (maxSteps := 4000000) only [method_specs_simp, seval, oa]
  refine clY.con (c16 _ _ (by omega)) (by simp only [method_specs_simp]) ?_
  simp (maxSteps := 4000000) only [method_specs_simp, seval, ob]
  rw [wrap_id (by omega) (by omega)]
  unfold mvFull at hf
  cases h1 : decide ((us.length : Int) + bs.length > 30) with
  | true =>
    simp (maxSteps := 4000000) only [method_specs_simp, seval]
    refine clY.con (c93 9) (by simp only [method_specs_simp]) ?_
    simp (maxSteps := 4000000) only [method_specs_simp, seval, errCells]
  | false =>
    rw [h1, Bool.false_or] at hf
    simp (maxSteps := 4000000) only [method_specs_simp, seval]
    rw [wrap_id (by omega) (by omega), hf]
    simp (maxSteps := 4000000) only [method_specs_simp, seval]
    refine clY.con (c93 9) (by simp only [method_specs_simp]) ?_
    simp (maxSteps := 4000000) only [method_specs_simp, seval, errCells]
theorem c36f (na nb : Int) (us bs : List Note) (ok : mvOk na us nb bs = true) (hf : mvFull na us bs = true) : Con P 36 [.agg [.int .i64 na, .sl 3 (us.map encNote)], .agg [.int .i64 nb, .sl 3 (bs.map encNote)]] (.agg (errCells 9)) := by
  obtain ⟨a1, a2, a3, b3, oa, ob⟩ := mv_bounds ok
  refine Con.of (n := 56) (rs := [.cell 4 42]) (Is.fn Try.func36) rfl (Is.call Try.call36) Try.results36 Try.ntmps36 (by simp only [method_specs_simp, errCells]) ?_
  simp (maxSteps := 4000000) only [method_specs_simp, seval]
  refine clY.con (c18 _ _ (by omega)) (by simp only [method_specs_simp]) ?_
  rw [← spec_impl]
  simp (maxSteps := 4000000) only [method_specs_simp, seval, oa]
  refine clY.con (c18 _ _ (by omega)) (by simp only [method_specs_simp]) ?_
  rw [← spec_impl]
  simp (maxSteps := 4000000) only [method_specs_simp, seval, ob]
  rw [wrap_id (by omega) (by omega)]
  unfold mvFull at hf
  cases h1 : decide ((us.length : Int) + bs.length > 30) with
  | true => simp (maxSteps := 4000000) only [method_specs_simp, seval, errCells]
  | false =>
    rw [h1, Bool.false_or] at hf
    simp (maxSteps := 4000000) only [method_specs_simp, seval]
    rw [wrap_id (by omega) (by omega), hf]
    simp (maxSteps := 4000000) only [method_specs_simp, seval, errCells]
def mvCells (na : Int) (us bs : List Note) : List V := [.int .i64 (na + bs.length), .sl 3 ((us ++ mv na bs).map encNote), .nil, .int .i64 (na + bs.length), .int .i64 0]
theorem mv_step {na : Int} {us bs : List Note} {i : Nat} {x : Note} (h : bs[i]? = some x) : us ++ mv na (bs.take (i + 1)) = (us ++ mv na (bs.take i)) ++ [(⟨na + i + 1, x.frm, x.text⟩ : Note)] := by
  have hi : i ≤ bs.length := Nat.le_of_lt (List.getElem?_eq_some_iff.1 h).1
  rw [take_s h, mv_snoc, List.append_assoc, List.length_take, Nat.min_eq_left hi]
theorem c35 (na nb : Int) (us bs : List Note) (ok : mvOk na us nb bs = true) (hf : mvFull na us bs = false) : Con P 35 [.agg [.int .i64 na, .sl 3 (us.map encNote)], .agg [.int .i64 nb, .sl 3 (bs.map encNote)]] (.agg (mvCells na us bs)) := by
  obtain ⟨a1, a2, a3, b3, oa, ob⟩ := mv_bounds ok
  have hf' := hf
  unfold mvFull at hf'
  rw [Bool.or_eq_false_iff] at hf'
  obtain ⟨f1, f2⟩ := hf'
  have g1 := of_decide_eq_false f1
  have g2 := of_decide_eq_false f2
  refine Con.of (n := 62) (rs := [.cell 4 42]) (Is.fn Try.func35) rfl (Is.call Try.call35) Try.results35 Try.ntmps35 (by simp only [method_specs_simp, mvCells]) ?_
  simp (maxSteps := 4000000) only [method_specs_simp, seval]
  refine clY.con (c16 _ _ (by omega)) (by simp only [method_specs_simp]) ?_
  simp (maxSteps := 4000000) only [method_specs_simp, seval, oa]
  refine clY.con (c16 _ _ (by omega)) (by simp only [method_specs_simp]) ?_
  simp (maxSteps := 4000000) only [method_specs_simp, seval, ob]
  have w1 : IntKind.i64.wrap ((us.length : Int) + bs.length) = (us.length : Int) + bs.length := wrap_id (by omega) (by omega)
  have w2 : IntKind.i64.wrap (na + bs.length) = na + bs.length := wrap_id (by omega) (by omega)
  simp (maxSteps := 4000000) only [method_specs_simp, seval, w1, w2, f1, f2]
  refine clY.con (c94 _ _ (by omega)) (by simp only [method_specs_simp]) ?_
  simp (maxSteps := 4000000) only [method_specs_simp, seval]
  refine SW.while (A := Nat) (fun i => ⟨pad 62 [.agg [.int .i64 na, .sl 3 (us.map encNote)], .agg [.int .i64 nb, .sl 3 (bs.map encNote)], .ptr 0 0, .ptr 1 0, .ptr 2 0, .ptr 3 0, .int .i64 i], [.box true [.int .i64 na, .sl 3 (us.map encNote)], .box true [.int .i64 nb, .sl 3 (bs.map encNote)], .box true [.int .i64 0, .nil, .nil, .int .i64 0, .int .i64 0], .box true [.int .i64 (na + i), .sl 3 ((us ++ mv na (bs.take i)).map encNote)]], []⟩)
    (fun i => bs.length - i) (fun i => i ≤ bs.length) 0 [0, 1, 2, 3] (Nat.zero_le _) ?_ ?_
  · simp only [List.take_zero, mv, List.append_nil]
    rw [show na + ((0 : Nat) : Int) = na by omega]
    simp only [mvcgen_simp, method_specs_simp, seval]
  · intro i hi
    refine CW.sound ?_
    simp (maxSteps := 4000000) only [method_specs_simp, seval]
    refine gB_split (fun h => ?_) (fun h => ?_)
    · simp only [decide_eq_true_eq, Int.ofNat_lt] at h
      have hxk : bs[i]? = some bs[i] := List.getElem?_eq_getElem h
      generalize bs[i] = x at hxk
      simp (maxSteps := 4000000) only [hxk, encNote, method_specs_simp, seval]
      have hL : (us ++ mv na (bs.take i)).length = us.length + i := by
        rw [List.length_append, mv_length, List.length_take]; omega
      have hfi : fullB (na + i) (us ++ mv na (bs.take i)) = false := by
        unfold fullB
        rw [hL, Bool.or_eq_false_iff]
        constructor <;> rw [decide_eq_false_iff_not]
        · push_cast; omega
        · omega
      refine ⟨by kernel_rfl, by omega, by omega, by omega, by omega, ?_⟩
      refine clY.con (c100 (na + i) x.frm x.text (us ++ mv na (bs.take i)) (by omega) hfi) (by simp only [method_specs_simp]) ?_
      simp (maxSteps := 4000000) only [method_specs_simp, seval, putCells]
      rw [wrap_id (by omega) (by omega)]
      refine Again.mk (i + 1) [0, 1, 2, 3] h (Nat.sub_lt_sub_left h (Nat.lt_succ_self _)) ?_
      have e1 : na + ((i + 1 : Nat) : Int) = na + i + 1 := by push_cast; omega
      rw [← mv_step hxk, e1]
      simp only [mvcgen_simp, method_specs_simp, seval]
    · simp only [decide_eq_false_iff_not, Bool.not_true, Int.ofNat_lt] at h
      have hib : i = bs.length := by omega
      subst hib
      rw [List.take_of_length_le (Nat.le_refl _)]
      simp only [method_specs_simp, mvCells]
theorem n36 (na nb : Int) (us bs : List Note) (ok : mvOk na us nb bs = true) (hf : mvFull na us bs = false) : NCon P 36 [.agg [.int .i64 na, .sl 3 (us.map encNote)], .agg [.int .i64 nb, .sl 3 (bs.map encNote)]]
    (.agg [.int .i64 (na + bs.length), .ar 0 0 (us.length + bs.length), .nil, .int .i64 (na + bs.length), .int .i64 0]) [.arr true 3 ((us ++ mv na bs).map encNote)] := by
  obtain ⟨a1, a2, a3, b3, oa, ob⟩ := mv_bounds ok
  have hf' := hf
  unfold mvFull at hf'
  rw [Bool.or_eq_false_iff] at hf'
  obtain ⟨f1, f2⟩ := hf'
  have g1 := of_decide_eq_false f1
  have g2 := of_decide_eq_false f2
  refine LCon.new (LCon.of (n := 56) (rs := [.cell 4 42]) (Is.fn Try.func36) rfl (Is.call Try.call36) Try.results36 Try.ntmps36 ?_) (pure1 (pure_notes _ _))
  simp (maxSteps := 4000000) only [method_specs_simp, seval]
  refine clY.con (c18 _ _ (by omega)) (by simp only [method_specs_simp]) ?_
  rw [← spec_impl]
  simp (maxSteps := 4000000) only [method_specs_simp, seval, oa]
  refine clY.con (c18 _ _ (by omega)) (by simp only [method_specs_simp]) ?_
  rw [← spec_impl]
  have w1 : IntKind.i64.wrap ((us.length : Int) + bs.length) = (us.length : Int) + bs.length := wrap_id (by omega) (by omega)
  have w2 : IntKind.i64.wrap (na + bs.length) = na + bs.length := wrap_id (by omega) (by omega)
  simp (maxSteps := 4000000) only [method_specs_simp, seval, ob, w1, w2, f1, f2]
  refine clY.new (n95 na us (by omega)) (by simp only [method_specs_simp]) ?_
  simp (maxSteps := 4000000) only [method_specs_simp, seval]
  refine SW.while (A := Nat) (fun i => ⟨pad 56 [.agg [.int .i64 na, .sl 3 (us.map encNote)], .agg [.int .i64 nb, .sl 3 (bs.map encNote)], .ptr 0 0, .ptr 1 0, .ptr 2 0, .int .i64 bs.length, .ptr 4 0, .junk,
      .junk, .junk, .junk, .junk, .junk, .junk, .junk, .junk, .junk, .junk, .junk, .junk, .junk, .junk, .junk, .junk, .junk, .junk, .junk, .junk, .junk, .junk, .junk, .junk, .junk, .junk, .junk, .junk, .junk, .junk, .junk, .junk,
      .sl 3 (bs.map encNote), .int .i64 bs.length, .int .i64 i], [.box true [.int .i64 na, .sl 3 (us.map encNote)], .box true [.int .i64 nb, .sl 3 (bs.map encNote)], .box true [.int .i64 0, .nil, .nil, .int .i64 0, .int .i64 0], .arr true 3 ((us ++ mv na (bs.take i)).map encNote), .box true [.int .i64 (na + i), .ar 3 0 (us.length + i)]], []⟩)
    (fun i => bs.length - i) (fun i => i ≤ bs.length) 0 [0, 1, 2, 3, 4] (Nat.zero_le _) ?_ ?_
  · simp only [List.take_zero, mv, List.append_nil]
    rw [show na + ((0 : Nat) : Int) = na by omega]
    simp only [mvcgen_simp, method_specs_simp, seval]
  · intro i hi
    refine CW.sound ?_
    simp (maxSteps := 4000000) only [method_specs_simp, seval]
    refine gB_split (fun h => ?_) (fun h => ?_)
    · simp only [decide_eq_true_eq, Int.ofNat_lt] at h
      have hxk : bs[i]? = some bs[i] := List.getElem?_eq_getElem h
      generalize bs[i] = x at hxk
      simp (maxSteps := 4000000) only [hxk, encNote, method_specs_simp, seval]
      have hL : (us ++ mv na (bs.take i)).length = us.length + i := by
        rw [List.length_append, mv_length, List.length_take]; omega
      refine ⟨by omega, by omega, ?_⟩
      have h101 := n101 (P := P) (na + i) x.frm x.text (us ++ mv na (bs.take i)) (by omega) (by omega) (by omega)
      rw [hL, ← mv_step hxk] at h101
      refine clY.live [4, 3] [] h101 ?_ (by simp) ?_
      · simp only [mvcgen_simp, method_specs_simp, seval]
      simp (maxSteps := 4000000) only [method_specs_simp, seval]
      rw [wrap_id (by omega) (by omega)]
      refine Again.mk (i + 1) [0, 1, 2, 6, 4] h (Nat.sub_lt_sub_left h (Nat.lt_succ_self _)) ?_
      have e1 : na + ((i + 1 : Nat) : Int) = na + i + 1 := by push_cast; omega
      rw [e1]
      simp only [mvcgen_simp, method_specs_simp, seval, Nat.add_assoc]
    · simp only [decide_eq_false_iff_not, Bool.not_true, Int.ofNat_lt] at h
      have hib : i = bs.length := by omega
      subst hib
      rw [List.take_of_length_le (Nat.le_refl _)]
      refine LResY.mk [3] ?_
      simp only [mvcgen_simp, method_specs_simp, seval]
end
end Go.Proofs.Ytkdaijcdddomjaa
