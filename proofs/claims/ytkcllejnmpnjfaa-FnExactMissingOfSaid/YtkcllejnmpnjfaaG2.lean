/- Right events, by the program and by the reference. No conditions but lengths. -/
import Derived.Test.YtkcllejnmpnjfaaG1
namespace Go.Proofs.Ytkcllejnmpnjfaa
open Go.Pm
open Go.Gm (Ev Gr)
set_option maxRecDepth 10000
set_option linter.unusedSimpArgs false
set_option linter.unusedVariables false
/-- What is ahead of place k. -/
def pv {α : Type} (xs : List α) : Nat → Option α
  | 0 => none
  | k + 1 => xs[k]?
section
variable {P : Program} [Is P]
theorem c_l02Is (n a b : Int) : Con P 107 [.int .i64 n, .int .i64 a, .int .i64 b] (.bool (Gm.isB n a b)) := c75 n a b
theorem c_l02Time (n : Int) : Con P 112 [.int .i64 n] (.bool (Gm.isB n 0 1000000)) := c74 n
theorem c_l02User (n : Int) : Con P 103 [.int .i64 n] (.bool (Gm.isB n 1 6)) := c76 n
theorem c_in (n a b : Int) : Con P 105 [.int .i64 n, .int .i64 a, .int .i64 b] (.bool (Gm.isB n a b)) := c78 n a b
theorem c_isUser (n : Int) : Con P 101 [.int .i64 n] (.bool (Gm.isB n 1 6)) := c79 n
theorem c_isTime (n : Int) : Con P 111 [.int .i64 n] (.bool (Gm.isB n 0 1000000)) := c80 n
theorem c_isRoom (n : Int) : Con P 192 [.int .i64 n] (.bool (Gm.isB n 1 3)) := by
  refine Con.of (n := 5) (rs := [.tmp 2]) (Is.fn Try.func192) rfl (Is.call Try.call192) Try.results192 Try.ntmps192 trivial ?_
  simp (maxSteps := 4000000) only [method_specs_simp, seval]
  refine clY.con (c_in n 1 3) (by simp only [method_specs_simp]) ?_
  simp (maxSteps := 4000000) only [method_specs_simp, seval]
theorem c_isId (n : Int) : Con P 220 [.int .i64 n] (.bool (Gm.isB n 1 1000000)) := by
  refine Con.of (n := 5) (rs := [.tmp 2]) (Is.fn Try.func220) rfl (Is.call Try.call220) Try.results220 Try.ntmps220 trivial ?_
  simp (maxSteps := 4000000) only [method_specs_simp, seval]
  refine clY.con (c_in n 1 1000000) (by simp only [method_specs_simp]) ?_
  simp (maxSteps := 4000000) only [method_specs_simp, seval]
theorem c_l02Id (n : Int) : Con P 210 [.int .i64 n] (.bool (Gm.isB n 1 1000000)) := by
  refine Con.of (n := 5) (rs := [.tmp 2]) (Is.fn Try.func210) rfl (Is.call Try.call210) Try.results210 Try.ntmps210 trivial ?_
  simp (maxSteps := 4000000) only [method_specs_simp, seval]
  refine clY.con (c_l02Is n 1 1000000) (by simp only [method_specs_simp]) ?_
  simp (maxSteps := 4000000) only [method_specs_simp, seval]
theorem c_incr (xs : List Int) (lo hi : Int) (hx : xs.length < 2 ^ 62) : Con P 243 [.sl 1 (xs.map encI), .int .i64 lo, .int .i64 hi] (.bool (Gm.incr lo hi none xs)) := by
  refine Con.of (n := 35) (rs := [.tmp 6]) (Is.fn Try.func243) rfl (Is.call Try.call243) Try.results243 Try.ntmps243 trivial ?_
  simp (maxSteps := 4000000) only [method_specs_simp, seval]
  refine SW.while (A := Nat) (fun k => ⟨pad 35 [.sl 1 (xs.map encI), .int .i64 lo, .int .i64 hi, .junk, .junk, .junk, .bool false, .junk, .junk, .sl 1 (xs.map encI), .int .i64 xs.length, .int .i64 k], [], []⟩) (fun k => xs.length - k)
    (fun k => k ≤ xs.length ∧ Gm.incr lo hi none xs = Gm.incr lo hi (pv xs k) (xs.drop k)) 0 [] ⟨Nat.zero_le _, rfl⟩ ?_ ?_
  · simp only [mvcgen_simp, method_specs_simp, seval]
  · rintro k ⟨hk, hr⟩
    rw [hr]
    refine CW.sound ?_
    simp (maxSteps := 4000000) only [method_specs_simp, seval]
    refine gB_split (fun h => ?_) (fun h => ?_)
    · simp only [decide_eq_true_eq, Int.ofNat_lt] at h
      obtain ⟨x, hxk⟩ : ∃ x, xs[k]? = some x := ⟨_, List.getElem?_eq_getElem h⟩
      rw [drop_cons hxk, Gm.incr] at hr ⊢
      simp (maxSteps := 4000000) only [List.getElem?_map, hxk, encI, method_specs_simp, seval]
      refine ⟨by omega, by omega, ?_⟩
      refine clY.con (c_in x lo hi) (by simp only [method_specs_simp]) ?_
      simp (maxSteps := 4000000) only [method_specs_simp, seval]
      refine gB_split (fun h1 => ?_) (fun h1 => ?_)
      · simp at h1
        refine gB_split (fun h2 => ?_) (fun h2 => ?_)
        · simp at h2
          obtain ⟨j, rfl⟩ : ∃ j, k = j + 1 := ⟨k - 1, by omega⟩
          obtain ⟨y, hyk⟩ : ∃ y, xs[j]? = some y := ⟨_, List.getElem?_eq_getElem (by omega)⟩
          have e4 : IntKind.i64.wrap (((j + 1 : Nat) : Int) - 1) = (j : Int) := by rw [wrap_id (by omega) (by omega)]; omega
          rw [e4]
          simp (maxSteps := 4000000) only [List.getElem?_map, hyk, encI, method_specs_simp, seval]
          refine ⟨by omega, by omega, ?_⟩
          have ep : pv xs (j + 1) = some y := hyk
          refine gB_split (fun h3 => ?_) (fun h3 => ?_)
          · simp at h3
            simp [ep, Gm.notLess, h3]
          · simp at h3
            have hn : ¬ y ≥ x := by omega
            rw [wrap_id (by omega) (by omega)]
            refine Again.mk (j + 1 + 1) [] ⟨h, ?_⟩ (Nat.sub_lt_sub_left h (Nat.lt_succ_self _)) ?_
            · have e7 : pv xs (j + 1 + 1) = some x := hxk
              rw [ep, e7]
              simp [Gm.notLess, h1, h3]
            · simp only [mvcgen_simp, method_specs_simp, seval]
        · simp at h2
          have hk0 : k = 0 := by omega
          subst hk0
          rw [wrap_id (by omega) (by omega)]
          refine Again.mk 1 [] ⟨h, ?_⟩ (Nat.sub_lt_sub_left h (Nat.lt_succ_self _)) ?_
          · simp [Gm.notLess, h1, pv, hxk]
          · simp only [mvcgen_simp, method_specs_simp, seval]
      · simp at h1
        simp [h1]
    · simp only [decide_eq_false_iff_not, Bool.not_true, Int.ofNat_lt] at h
      rw [List.drop_eq_nil_of_le (by omega), Gm.incr]
def idxI (xs : List Int) (v : Int) : Int := if xs.contains v then ((xs.findIdx (· == v) : Nat) : Int) else -1
theorem c_indexI (xs : List Int) (v : Int) (hx : xs.length < 2 ^ 62) : Con P 186 [.sl 1 (xs.map encI), .int .i64 v] (.int .i64 (idxI xs v)) := by
  refine Con.of (n := 19) (rs := [.tmp 4]) (Is.fn Try.func186) rfl (Is.call Try.call186) Try.results186 Try.ntmps186 trivial ?_
  simp (maxSteps := 4000000) only [method_specs_simp, seval]
  refine SW.while (A := Nat) (fun k => ⟨pad 19 [.sl 1 (xs.map encI), .int .i64 v, .junk, .junk, .int .i64 0, .junk, .sl 1 (xs.map encI), .int .i64 xs.length, .int .i64 k], [], []⟩) (fun k => xs.length - k)
    (fun k => k ≤ xs.length ∧ idxI xs v = if (xs.drop k).contains v then (k : Int) + (((xs.drop k).findIdx (· == v) : Nat) : Int) else -1) 0 [] ⟨Nat.zero_le _, by simp [idxI]⟩ ?_ ?_
  · simp only [mvcgen_simp, method_specs_simp, seval]
  · rintro k ⟨hk, hr⟩
    rw [hr]
    refine CW.sound ?_
    simp (maxSteps := 4000000) only [method_specs_simp, seval]
    refine gB_split (fun h => ?_) (fun h => ?_)
    · simp only [decide_eq_true_eq, Int.ofNat_lt] at h
      obtain ⟨x, hxk⟩ : ∃ x, xs[k]? = some x := ⟨_, List.getElem?_eq_getElem h⟩
      rw [drop_cons hxk]
      simp (maxSteps := 4000000) only [List.getElem?_map, hxk, encI, method_specs_simp, seval]
      refine ⟨by omega, by omega, ?_⟩
      refine gB_split (fun h1 => ?_) (fun h1 => ?_)
      · simp at h1
        subst h1
        simp [List.findIdx_cons]
      · simp at h1
        rw [wrap_id (by omega) (by omega)]
        refine Again.mk (k + 1) [] ⟨h, ?_⟩ (Nat.sub_lt_sub_left h (Nat.lt_succ_self _)) ?_
        · have h2 : (x == v) = false := beq_eq_false_iff_ne.2 (fun q => h1 q.symm)
          have h3 : (v == x) = false := beq_eq_false_iff_ne.2 h1
          simp only [List.contains_cons, h3, Bool.false_or, List.findIdx_cons, h2]
          split
          · simp; omega
          · rfl
        · simp only [mvcgen_simp, method_specs_simp, seval]
    · simp only [decide_eq_false_iff_not, Bool.not_true, Int.ofNat_lt] at h
      rw [List.drop_eq_nil_of_le (by omega)]
      simp
theorem c_containsI (xs : List Int) (v : Int) (hx : xs.length < 2 ^ 62) : Con P 122 [.sl 1 (xs.map encI), .int .i64 v] (.bool (xs.contains v)) := by
  refine Con.of (n := 9) (rs := [.tmp 4]) (Is.fn Try.func122) rfl (Is.call Try.call122) Try.results122 Try.ntmps122 trivial ?_
  simp (maxSteps := 4000000) only [method_specs_simp, seval]
  refine clY.con (c_indexI xs v hx) (by simp only [method_specs_simp]) ?_
  simp (maxSteps := 4000000) only [method_specs_simp, seval]
  unfold idxI
  cases xs.contains v with
  | true => simp
  | false => simp
theorem c_l02Prev (xs : List Int) (id : Int) (hx : xs.length < 2 ^ 62) : Con P 211 [.sl 1 (xs.map encI), .int .i64 id] (.bool (Gm.prevR xs id)) := by
  refine Con.of (n := 45) (rs := [.tmp 4]) (Is.fn Try.func211) rfl (Is.call Try.call211) Try.results211 Try.ntmps211 trivial ?_
  simp (maxSteps := 4000000) only [method_specs_simp, seval]
  refine gB_split (fun h => ?_) (fun h => ?_)
  · simp at h
    have : ¬ ((xs.length : Int) ≤ 4) := by omega
    simp [Gm.prevR, this]
  · simp at h
    have : ((xs.length : Int) ≤ 4) := by omega
    simp only [Gm.prevR, this, decide_true, Bool.true_and]
    refine SW.while (A := Nat) (fun k => ⟨pad 45 [.sl 1 (xs.map encI), .int .i64 id, .junk, .junk, .bool false, .int .i64 k], [], []⟩) (fun k => xs.length - k)
      (fun k => k ≤ xs.length ∧ Gm.incrN id none xs = Gm.incrN id (pv xs k) (xs.drop k)) 0 [] ⟨Nat.zero_le _, rfl⟩ ?_ ?_
    · simp only [mvcgen_simp, method_specs_simp, seval]
    · rintro k ⟨hk, hr⟩
      rw [hr]
      refine CW.sound ?_
      simp (maxSteps := 4000000) only [method_specs_simp, seval]
      refine gB_split (fun h => ?_) (fun h => ?_)
      · simp only [decide_eq_true_eq, Int.ofNat_lt] at h
        obtain ⟨x, hxk⟩ : ∃ x, xs[k]? = some x := ⟨_, List.getElem?_eq_getElem h⟩
        rw [drop_cons hxk, Gm.incrN]
        simp (maxSteps := 4000000) only [List.getElem?_map, hxk, encI, method_specs_simp, seval]
        refine ⟨by kernel_rfl, by omega, by omega, ?_⟩
        refine clY.con (c_l02Id x) (by simp only [method_specs_simp]) ?_
        simp (maxSteps := 4000000) only [method_specs_simp, seval]
        refine gB_split (fun h1 => ?_) (fun h1 => ?_)
        · simp at h1
          have e1 : (x == id) = true ∨ (x == id) = false := by cases (x == id) <;> simp
          refine ⟨by omega, by omega, ?_⟩
          simp (maxSteps := 4000000) only [hxk, Option.map_some, encI, method_specs_simp, seval]
          rcases e1 with e1 | e1
          · simp (maxSteps := 4000000) only [e1, method_specs_simp, seval]
            simp [h1]
          · simp (maxSteps := 4000000) only [e1, method_specs_simp, seval]
            refine gB_split (fun h2 => ?_) (fun h2 => ?_)
            · simp at h2
              obtain ⟨j, rfl⟩ : ∃ j, k = j + 1 := ⟨k - 1, by omega⟩
              obtain ⟨y, hyk⟩ : ∃ y, xs[j]? = some y := ⟨_, List.getElem?_eq_getElem (by omega)⟩
              have e4 : IntKind.i64.wrap (((j + 1 : Nat) : Int) - 1) = (j : Int) := by rw [wrap_id (by omega) (by omega)]; omega
              have ep : pv xs (j + 1) = some y := hyk
              rw [e4]
              refine ⟨by omega, by omega, ?_⟩
              simp (maxSteps := 4000000) only [hyk, hxk, Option.map_some, encI, method_specs_simp, seval]
              refine ⟨by omega, by omega, ?_⟩
              have e8 : ((j : Int) + 1).toNat = j + 1 := by omega
              simp (maxSteps := 4000000) only [e8, hxk, Option.map_some, encI, method_specs_simp, seval]
              rw [ep]
              refine gB_split (fun h3 => ?_) (fun h3 => ?_)
              · simp at h3
                simp [Gm.notLess, h3]
              · simp at h3
                rw [wrap_id (by omega) (by omega)]
                refine Again.mk (j + 1 + 1) [] ⟨h, ?_⟩ (Nat.sub_lt_sub_left h (Nat.lt_succ_self _)) ?_
                · have e7 : pv xs (j + 1 + 1) = some x := hxk
                  have e9 : decide (y ≥ x) = false := by simp; exact h3
                  rw [e7]
                  simp only [Gm.notLess, h1, e9, e1, Bool.true_and, Bool.not_false]
                · simp only [mvcgen_simp, method_specs_simp, seval]
            · simp at h2
              have hk0 : k = 0 := by omega
              subst hk0
              rw [wrap_id (by omega) (by omega)]
              refine Again.mk 1 [] ⟨h, ?_⟩ (Nat.sub_lt_sub_left h (Nat.lt_succ_self _)) ?_
              · have e7 : pv xs 1 = some x := hxk
                rw [e7]
                simp [Gm.notLess, h1, pv]
              · simp only [mvcgen_simp, method_specs_simp, seval]
        · simp at h1
          simp [h1]
      · simp only [decide_eq_false_iff_not, Bool.not_true, Int.ofNat_lt] at h
        rw [List.drop_eq_nil_of_le (by omega), Gm.incrN]
theorem str_empty (s : ByteArray) : (s.toList == ByteArray.empty.toList) = ((s.size : Int) == 0) := by
  rw [ByteArray.toList_eq, ByteArray.toList_eq, Bool.eq_iff_iff]
  simp only [beq_iff_eq]
  constructor
  · intro h
    have := congrArg List.length h
    rw [Array.length_toList] at this
    exact congrArg Int.ofNat this
  · intro h
    have : s.data.toList.length = 0 := by
      rw [Array.length_toList]
      exact Int.ofNat.inj h
    rw [List.eq_nil_of_length_eq_zero this]
    rfl
theorem c_fieldsRight (e : Ev) (he : EvOK e) : Con P 244 [.agg (encEv e)] (.bool (Gm.bodyR e)) := by
  refine Con.of (n := 114) (rs := [.tmp 2]) (Is.fn Try.func244) rfl (Is.call Try.call244) Try.results244 Try.ntmps244 trivial ?_
  simp (maxSteps := 4000000) only [method_specs_simp, seval]
  simp (maxSteps := 4000000) only [method_specs_simp, seval, encEv]
  refine ⟨by kernel_rfl, ?_⟩
  refine gB_split (fun h => ?_) (fun h => ?_)
  · simp only [beq_iff_eq] at h
    cases h1 : e.key == 0 <;> cases h2 : e.n == 0 <;> simp (maxSteps := 4000000) only [h1, h2, method_specs_simp, seval] <;> simp [Gm.bodyR, h, h1, h2]
  · simp only [Bool.not_true, beq_eq_false_iff_ne, ne_eq] at h
    have n1 : ¬ e.kind = 1 := h
    clear h
    refine gB_split (fun h => ?_) (fun h => ?_)
    · simp only [beq_iff_eq] at h
      refine clY.con (c_isUser e.key) (by simp only [method_specs_simp]) ?_
      simp (maxSteps := 4000000) only [method_specs_simp, seval]
      cases h1 : Gm.isB e.key 1 6
      · simp (maxSteps := 4000000) only [method_specs_simp, seval]
        simp [Gm.bodyR, h, h1]
      · simp (maxSteps := 4000000) only [method_specs_simp, seval]
        refine clY.con (c_in e.n 1 4) (by simp only [method_specs_simp]) ?_
        simp (maxSteps := 4000000) only [method_specs_simp, seval]
        cases h2 : Gm.isB e.n 1 4 <;> simp (maxSteps := 4000000) only [method_specs_simp, seval] <;> simp [Gm.bodyR, h, h1, h2]
    · simp only [Bool.not_true, beq_eq_false_iff_ne, ne_eq] at h
      have n2 : ¬ e.kind = 2 := h
      clear h
      refine gB_split (fun h => ?_) (fun h => ?_)
      · simp only [beq_iff_eq] at h
        refine clY.con (c_isUser e.key) (by simp only [method_specs_simp]) ?_
        simp (maxSteps := 4000000) only [method_specs_simp, seval]
        cases h1 : Gm.isB e.key 1 6
        · simp (maxSteps := 4000000) only [method_specs_simp, seval]
          simp [Gm.bodyR, h, h1]
        · simp (maxSteps := 4000000) only [method_specs_simp, seval]
          refine clY.con (c_in e.n 0 100) (by simp only [method_specs_simp]) ?_
          simp (maxSteps := 4000000) only [method_specs_simp, seval]
          cases h2 : Gm.isB e.n 0 100 <;> simp (maxSteps := 4000000) only [method_specs_simp, seval] <;> simp [Gm.bodyR, h, h1, h2]
      · simp only [Bool.not_true, beq_eq_false_iff_ne, ne_eq] at h
        have n3 : ¬ e.kind = 3 := h
        clear h
        refine gB_split (fun h => ?_) (fun h => ?_)
        · simp only [beq_iff_eq] at h
          cases h1 : e.key == 0 <;> cases h2 : e.n == 0 <;> simp (maxSteps := 4000000) only [h1, h2, method_specs_simp, seval] <;> simp [Gm.bodyR, h, h1, h2]
        · simp only [Bool.not_true, beq_eq_false_iff_ne, ne_eq] at h
          have n4 : ¬ e.kind = 4 := h
          clear h
          refine gB_split (fun h => ?_) (fun h => ?_)
          · simp only [beq_iff_eq] at h
            cases h1 : e.key == 0
            · simp (maxSteps := 4000000) only [h1, method_specs_simp, seval]
              simp [Gm.bodyR, h, h1]
            · simp (maxSteps := 4000000) only [h1, method_specs_simp, seval]
              refine clY.con (c_in e.n 1 2) (by simp only [method_specs_simp]) ?_
              simp (maxSteps := 4000000) only [method_specs_simp, seval]
              cases h2 : Gm.isB e.n 1 2 <;> simp (maxSteps := 4000000) only [method_specs_simp, seval] <;> simp [Gm.bodyR, h, h1, h2]
          · simp only [Bool.not_true, beq_eq_false_iff_ne, ne_eq] at h
            have n5 : ¬ e.kind = 5 := h
            clear h
            refine gB_split (fun h => ?_) (fun h => ?_)
            · simp only [beq_iff_eq] at h
              cases h1 : e.key == 0
              · simp (maxSteps := 4000000) only [h1, method_specs_simp, seval]
                simp [Gm.bodyR, h, h1]
              · simp (maxSteps := 4000000) only [h1, method_specs_simp, seval]
                refine clY.con (c_in e.n 1 3) (by simp only [method_specs_simp]) ?_
                simp (maxSteps := 4000000) only [method_specs_simp, seval]
                cases h2 : Gm.isB e.n 1 3 <;> simp (maxSteps := 4000000) only [method_specs_simp, seval] <;> simp [Gm.bodyR, h, h1, h2]
            · simp only [Bool.not_true, beq_eq_false_iff_ne, ne_eq] at h
              have n6 : ¬ e.kind = 6 := h
              clear h
              refine gB_split (fun h => ?_) (fun h => ?_)
              · simp only [beq_iff_eq] at h
                cases h1 : e.key == 0
                · simp (maxSteps := 4000000) only [h1, method_specs_simp, seval]
                  simp [Gm.bodyR, h, h1]
                · cases h2 : e.n == 0
                  · simp (maxSteps := 4000000) only [h1, h2, method_specs_simp, seval]
                    simp [Gm.bodyR, h, h1, h2]
                  · simp (maxSteps := 4000000) only [h1, h2, method_specs_simp, seval]
                    refine clY.con (c_in e.text.size 1 30) (by simp only [method_specs_simp]) ?_
                    simp (maxSteps := 4000000) only [method_specs_simp, seval]
                    simp [Gm.bodyR, h, h1, h2]
              · simp only [Bool.not_true, beq_eq_false_iff_ne, ne_eq] at h
                have n7 : ¬ e.kind = 7 := h
                clear h
                cases h8 : e.kind == 8
                · simp (maxSteps := 4000000) only [h8, method_specs_simp, seval]
                  simp [Gm.bodyR, h8, n1, n2, n3, n4, n5, n6, n7]
                · simp (maxSteps := 4000000) only [h8, method_specs_simp, seval]
                  refine clY.con (c_isId e.key) (by simp only [method_specs_simp]) ?_
                  simp (maxSteps := 4000000) only [method_specs_simp, seval]
                  cases h1 : Gm.isB e.key 1 1000000 <;> cases h2 : e.n == 0 <;> simp (maxSteps := 4000000) only [h2, method_specs_simp, seval] <;> simp [Gm.bodyR, h8, h1, h2, n1, n2, n3, n4, n5, n6, n7]
theorem c_l02Body (e : Ev) (he : EvOK e) : Con P 212 [.agg (encEv e)] (.bool (Gm.bodyR e)) := by
  have ht : (e.text.toList == ({ data := #[] } : ByteArray).toList) = ((e.text.size : Int) == 0) := str_empty e.text
  refine Con.of (n := 115) (rs := [.tmp 2]) (Is.fn Try.func212) rfl (Is.call Try.call212) Try.results212 Try.ntmps212 trivial ?_
  simp (maxSteps := 4000000) only [method_specs_simp, seval]
  simp (maxSteps := 4000000) only [encEv, ht, method_specs_simp, seval]
  refine ⟨by kernel_rfl, ?_⟩
  refine gB_split (fun h => ?_) (fun h => ?_)
  · simp only [beq_iff_eq] at h
    cases h1 : e.key == 0 <;> cases h2 : e.n == 0 <;> simp (maxSteps := 4000000) only [h1, h2, method_specs_simp, seval] <;> simp [Gm.bodyR, h, h1, h2]
  · simp only [Bool.not_true, beq_eq_false_iff_ne, ne_eq] at h
    have n1 : ¬ e.kind = 1 := h
    clear h
    refine gB_split (fun h => ?_) (fun h => ?_)
    · simp only [beq_iff_eq] at h
      refine clY.con (c_l02User e.key) (by simp only [method_specs_simp]) ?_
      simp (maxSteps := 4000000) only [method_specs_simp, seval]
      cases h1 : Gm.isB e.key 1 6
      · simp (maxSteps := 4000000) only [method_specs_simp, seval]
        simp [Gm.bodyR, h, h1]
      · simp (maxSteps := 4000000) only [method_specs_simp, seval]
        refine clY.con (c_l02Is e.n 1 4) (by simp only [method_specs_simp]) ?_
        simp (maxSteps := 4000000) only [method_specs_simp, seval]
        cases h2 : Gm.isB e.n 1 4 <;> simp (maxSteps := 4000000) only [method_specs_simp, seval] <;> simp [Gm.bodyR, h, h1, h2]
    · simp only [Bool.not_true, beq_eq_false_iff_ne, ne_eq] at h
      have n2 : ¬ e.kind = 2 := h
      clear h
      refine gB_split (fun h => ?_) (fun h => ?_)
      · simp only [beq_iff_eq] at h
        refine clY.con (c_l02User e.key) (by simp only [method_specs_simp]) ?_
        simp (maxSteps := 4000000) only [method_specs_simp, seval]
        cases h1 : Gm.isB e.key 1 6
        · simp (maxSteps := 4000000) only [method_specs_simp, seval]
          simp [Gm.bodyR, h, h1]
        · simp (maxSteps := 4000000) only [method_specs_simp, seval]
          refine clY.con (c_l02Is e.n 0 100) (by simp only [method_specs_simp]) ?_
          simp (maxSteps := 4000000) only [method_specs_simp, seval]
          cases h2 : Gm.isB e.n 0 100 <;> simp (maxSteps := 4000000) only [method_specs_simp, seval] <;> simp [Gm.bodyR, h, h1, h2]
      · simp only [Bool.not_true, beq_eq_false_iff_ne, ne_eq] at h
        have n3 : ¬ e.kind = 3 := h
        clear h
        refine gB_split (fun h => ?_) (fun h => ?_)
        · simp only [beq_iff_eq] at h
          cases h1 : e.key == 0 <;> cases h2 : e.n == 0 <;> simp (maxSteps := 4000000) only [h1, h2, method_specs_simp, seval] <;> simp [Gm.bodyR, h, h1, h2]
        · simp only [Bool.not_true, beq_eq_false_iff_ne, ne_eq] at h
          have n4 : ¬ e.kind = 4 := h
          clear h
          refine gB_split (fun h => ?_) (fun h => ?_)
          · simp only [beq_iff_eq] at h
            cases h1 : e.key == 0
            · simp (maxSteps := 4000000) only [h1, method_specs_simp, seval]
              simp [Gm.bodyR, h, h1]
            · simp (maxSteps := 4000000) only [h1, method_specs_simp, seval]
              refine clY.con (c_l02Is e.n 1 2) (by simp only [method_specs_simp]) ?_
              simp (maxSteps := 4000000) only [method_specs_simp, seval]
              cases h2 : Gm.isB e.n 1 2 <;> simp (maxSteps := 4000000) only [method_specs_simp, seval] <;> simp [Gm.bodyR, h, h1, h2]
          · simp only [Bool.not_true, beq_eq_false_iff_ne, ne_eq] at h
            have n5 : ¬ e.kind = 5 := h
            clear h
            refine gB_split (fun h => ?_) (fun h => ?_)
            · simp only [beq_iff_eq] at h
              cases h1 : e.key == 0
              · simp (maxSteps := 4000000) only [h1, method_specs_simp, seval]
                simp [Gm.bodyR, h, h1]
              · simp (maxSteps := 4000000) only [h1, method_specs_simp, seval]
                refine clY.con (c_l02Is e.n 1 3) (by simp only [method_specs_simp]) ?_
                simp (maxSteps := 4000000) only [method_specs_simp, seval]
                cases h2 : Gm.isB e.n 1 3 <;> simp (maxSteps := 4000000) only [method_specs_simp, seval] <;> simp [Gm.bodyR, h, h1, h2]
            · simp only [Bool.not_true, beq_eq_false_iff_ne, ne_eq] at h
              have n6 : ¬ e.kind = 6 := h
              clear h
              refine gB_split (fun h => ?_) (fun h => ?_)
              · simp only [beq_iff_eq] at h
                cases h1 : e.key == 0 <;> cases h2 : e.n == 0 <;> cases h3 : decide ((e.text.size : Int) ≥ 1) <;> simp (maxSteps := 4000000) only [h1, h2, h3, method_specs_simp, seval] <;> simp [Gm.bodyR, Gm.isB, h, h1, h2, h3]
              · simp only [Bool.not_true, beq_eq_false_iff_ne, ne_eq] at h
                have n7 : ¬ e.kind = 7 := h
                clear h
                refine gB_split (fun h => ?_) (fun h => ?_)
                · simp only [beq_iff_eq] at h
                  refine clY.con (c_l02Id e.key) (by simp only [method_specs_simp]) ?_
                  simp (maxSteps := 4000000) only [method_specs_simp, seval]
                  cases h1 : Gm.isB e.key 1 1000000 <;> cases h2 : e.n == 0 <;> simp (maxSteps := 4000000) only [h2, method_specs_simp, seval] <;> simp [Gm.bodyR, h, h1, h2]
                · simp only [Bool.not_true, beq_eq_false_iff_ne, ne_eq] at h
                  have n8 : ¬ e.kind = 8 := h
                  clear h
                  have h8 : (e.kind == 8) = false := beq_eq_false_iff_ne.2 n8
                  simp [Gm.bodyR, h8, n1, n2, n3, n4, n5, n6, n7, n8]
/-- Right, but for how many it stands behind. -/
def evR (e : Ev) : Bool := Gm.isB e.id 1 1000000 && (Gm.isB e.room 1 3 && (Gm.isB e.author 1 6 && (Gm.isB e.time 0 1000000 && (decide ((e.prev.length : Int) ≤ 4) && (Gm.incr 1 1000000 none e.prev && (!e.prev.contains e.id && Gm.bodyR e))))))
theorem evR_right (e : Ev) : (evR e && ((e.kind == 1) == ((e.prev.length : Int) == 0))) = Gm.evRight e := by
  unfold evR Gm.evRight Gm.prevR
  rw [Gm.incrN_eq]
  cases Gm.isB e.id 1 1000000 <;> cases Gm.isB e.room 1 3 <;> cases Gm.isB e.author 1 6 <;> cases Gm.isB e.time 0 1000000 <;> cases decide ((e.prev.length : Int) ≤ 4) <;> cases Gm.incr 1 1000000 none e.prev <;> cases e.prev.contains e.id <;> cases Gm.bodyR e <;> cases ((e.kind == 1) == ((e.prev.length : Int) == 0)) <;> rfl
theorem c_right (e : Ev) (he : EvOK e) : Con P 215 [.agg (encEv e)] (.bool (evR e)) := by
  have hp : e.prev.length < 2 ^ 62 := by have := he.2; omega
  refine Con.of (n := 44) (rs := [.tmp 2]) (Is.fn Try.func215) rfl (Is.call Try.call215) Try.results215 Try.ntmps215 trivial ?_
  simp (maxSteps := 4000000) only [method_specs_simp, seval, encEv]
  refine clY.con (c_isId e.id) (by simp only [method_specs_simp, encEv]) ?_
  simp (maxSteps := 4000000) only [method_specs_simp, seval, encEv]
  cases g1 : Gm.isB e.id 1 1000000
  · (try simp (maxSteps := 4000000) only [g1, method_specs_simp, seval])
    simp only [evR, g1, Bool.true_and, Bool.false_and, Bool.and_true, Bool.and_false]
  · (try simp (maxSteps := 4000000) only [g1, method_specs_simp, seval])
    refine clY.con (c_isRoom e.room) (by simp only [method_specs_simp, encEv]) ?_
    simp (maxSteps := 4000000) only [method_specs_simp, seval, encEv]
    cases g2 : Gm.isB e.room 1 3
    · (try simp (maxSteps := 4000000) only [g2, method_specs_simp, seval])
      simp only [evR, g1, g2, Bool.true_and, Bool.false_and, Bool.and_true, Bool.and_false]
    · (try simp (maxSteps := 4000000) only [g2, method_specs_simp, seval])
      refine clY.con (c_isUser e.author) (by simp only [method_specs_simp, encEv]) ?_
      simp (maxSteps := 4000000) only [method_specs_simp, seval, encEv]
      cases g3 : Gm.isB e.author 1 6
      · (try simp (maxSteps := 4000000) only [g3, method_specs_simp, seval])
        simp only [evR, g1, g2, g3, Bool.true_and, Bool.false_and, Bool.and_true, Bool.and_false]
      · (try simp (maxSteps := 4000000) only [g3, method_specs_simp, seval])
        refine clY.con (c_isTime e.time) (by simp only [method_specs_simp, encEv]) ?_
        simp (maxSteps := 4000000) only [method_specs_simp, seval, encEv]
        cases g4 : Gm.isB e.time 0 1000000
        · (try simp (maxSteps := 4000000) only [g4, method_specs_simp, seval])
          simp only [evR, g1, g2, g3, g4, Bool.true_and, Bool.false_and, Bool.and_true, Bool.and_false]
        · (try simp (maxSteps := 4000000) only [g4, method_specs_simp, seval])
          cases g5 : decide ((e.prev.length : Int) ≤ 4)
          · (try simp (maxSteps := 4000000) only [g5, method_specs_simp, seval])
            simp only [evR, g1, g2, g3, g4, g5, Bool.true_and, Bool.false_and, Bool.and_true, Bool.and_false]
          · (try simp (maxSteps := 4000000) only [g5, method_specs_simp, seval])
            refine clY.con (c_incr e.prev 1 1000000 hp) (by simp only [method_specs_simp, encEv]) ?_
            simp (maxSteps := 4000000) only [method_specs_simp, seval, encEv]
            cases g6 : Gm.incr 1 1000000 none e.prev
            · (try simp (maxSteps := 4000000) only [g6, method_specs_simp, seval])
              simp only [evR, g1, g2, g3, g4, g5, g6, Bool.true_and, Bool.false_and, Bool.and_true, Bool.and_false]
            · (try simp (maxSteps := 4000000) only [g6, method_specs_simp, seval])
              refine clY.con (c_containsI e.prev e.id hp) (by simp only [method_specs_simp, encEv]) ?_
              simp (maxSteps := 4000000) only [method_specs_simp, seval, encEv]
              cases g7 : (!e.prev.contains e.id)
              · (try simp (maxSteps := 4000000) only [g7, method_specs_simp, seval])
                simp only [evR, g1, g2, g3, g4, g5, g6, g7, Bool.true_and, Bool.false_and, Bool.and_true, Bool.and_false]
              · (try simp (maxSteps := 4000000) only [g7, method_specs_simp, seval])
                refine clY.con (c_fieldsRight e he) (by simp only [method_specs_simp, encEv]) ?_
                simp (maxSteps := 4000000) only [method_specs_simp, seval, encEv]
                cases g8 : Gm.bodyR e <;> (try simp (maxSteps := 4000000) only [g8, method_specs_simp, seval]) <;> simp only [evR, g1, g2, g3, g4, g5, g6, g7, g8, Bool.true_and, Bool.false_and, Bool.and_true, Bool.and_false]
theorem c_EventRight (e : Ev) (he : EvOK e) : Con P 149 [.agg (encEv e)] (.bool (Gm.evRight e)) := by
  have hr := evR_right e
  refine Con.of (n := 15) (rs := [.tmp 2]) (Is.fn Try.func149) rfl (Is.call Try.call149) Try.results149 Try.ntmps149 trivial ?_
  simp (maxSteps := 4000000) only [method_specs_simp, seval, encEv]
  refine clY.con (c_right e he) (by simp only [method_specs_simp, encEv]) ?_
  simp (maxSteps := 4000000) only [method_specs_simp, seval, encEv]
  rw [← hr]
  cases g1 : evR e <;> simp (maxSteps := 4000000) only [method_specs_simp, seval, Bool.false_and, Bool.true_and]
theorem c_sEventRight (e : Ev) (he : EvOK e) : Con P 146 [.agg (encEv e)] (.bool (Gm.evRight e)) := by
  have hp : e.prev.length < 2 ^ 62 := by have := he.2; omega
  refine Con.of (n := 42) (rs := [.tmp 2]) (Is.fn Try.func146) rfl (Is.call Try.call146) Try.results146 Try.ntmps146 trivial ?_
  simp (maxSteps := 4000000) only [method_specs_simp, seval, encEv]
  refine clY.con (c_l02Id e.id) (by simp only [method_specs_simp, encEv]) ?_
  simp (maxSteps := 4000000) only [method_specs_simp, seval, encEv]
  cases g1 : Gm.isB e.id 1 1000000
  · (try simp (maxSteps := 4000000) only [g1, method_specs_simp, seval])
    simp only [Gm.evRight, g1, Bool.true_and, Bool.false_and, Bool.and_true, Bool.and_false]
  · (try simp (maxSteps := 4000000) only [g1, method_specs_simp, seval])
    refine clY.con (c_l02Is e.room 1 3) (by simp only [method_specs_simp, encEv]) ?_
    simp (maxSteps := 4000000) only [method_specs_simp, seval, encEv]
    cases g2 : Gm.isB e.room 1 3
    · (try simp (maxSteps := 4000000) only [g2, method_specs_simp, seval])
      simp only [Gm.evRight, g1, g2, Bool.true_and, Bool.false_and, Bool.and_true, Bool.and_false]
    · (try simp (maxSteps := 4000000) only [g2, method_specs_simp, seval])
      refine clY.con (c_l02User e.author) (by simp only [method_specs_simp, encEv]) ?_
      simp (maxSteps := 4000000) only [method_specs_simp, seval, encEv]
      cases g3 : Gm.isB e.author 1 6
      · (try simp (maxSteps := 4000000) only [g3, method_specs_simp, seval])
        simp only [Gm.evRight, g1, g2, g3, Bool.true_and, Bool.false_and, Bool.and_true, Bool.and_false]
      · (try simp (maxSteps := 4000000) only [g3, method_specs_simp, seval])
        refine clY.con (c_l02Time e.time) (by simp only [method_specs_simp, encEv]) ?_
        simp (maxSteps := 4000000) only [method_specs_simp, seval, encEv]
        cases g4 : Gm.isB e.time 0 1000000
        · (try simp (maxSteps := 4000000) only [g4, method_specs_simp, seval])
          simp only [Gm.evRight, g1, g2, g3, g4, Bool.true_and, Bool.false_and, Bool.and_true, Bool.and_false]
        · (try simp (maxSteps := 4000000) only [g4, method_specs_simp, seval])
          refine clY.con (c_l02Prev e.prev e.id hp) (by simp only [method_specs_simp, encEv]) ?_
          simp (maxSteps := 4000000) only [method_specs_simp, seval, encEv]
          cases g5 : Gm.prevR e.prev e.id
          · (try simp (maxSteps := 4000000) only [g5, method_specs_simp, seval])
            simp only [Gm.evRight, g1, g2, g3, g4, g5, Bool.true_and, Bool.false_and, Bool.and_true, Bool.and_false]
          · (try simp (maxSteps := 4000000) only [g5, method_specs_simp, seval])
            cases g6 : (e.kind == 1) == ((e.prev.length : Int) == 0)
            · (try simp (maxSteps := 4000000) only [g6, method_specs_simp, seval])
              simp only [Gm.evRight, g1, g2, g3, g4, g5, g6, Bool.true_and, Bool.false_and, Bool.and_true, Bool.and_false]
            · (try simp (maxSteps := 4000000) only [g6, method_specs_simp, seval])
              refine clY.con (c_l02Body e he) (by simp only [method_specs_simp, encEv]) ?_
              simp (maxSteps := 4000000) only [method_specs_simp, seval, encEv]
              cases g7 : Gm.bodyR e <;> (try simp (maxSteps := 4000000) only [g7, method_specs_simp, seval]) <;> simp only [Gm.evRight, g1, g2, g3, g4, g5, g6, g7, Bool.true_and, Bool.false_and, Bool.and_true, Bool.and_false]
end
end Go.Proofs.Ytkcllejnmpnjfaa
