/- What impl.InboxRight hands back. No conditions but a length below 2 to the 62. -/
import Derived.Test.YtkcllejnmpnjfaaI1
namespace Go.Proofs.Ytkcllejnmpnjfaa
open Go.Pm
set_option maxRecDepth 10000
set_option linter.unusedSimpArgs false
section
variable {P : Program} [Is P]
def notesOk2 (nx : Int) : Option Note → List Note → Bool
  | _, [] => true
  | p, x :: xs => !(!isB x.num 1 nx || !isB x.frm 1 6 || decide ((x.text.size : Int) > 30) || (match p with | none => false | some y => decide (y.num ≥ x.num))) && notesOk2 nx (some x) xs
def implOk (nx : Int) (xs : List Note) : Bool := notesOk2 nx none xs && (isB nx 0 1000000 && decide ((xs.length : Int) ≤ 30))
theorem c18 (n : Int) (xs : List Note) (hx : xs.length < 2 ^ 62) : Con P 27 [.agg [.int .i64 n, .sl 3 (xs.map encNote)]] (.bool (implOk n xs)) := by
  refine Con.of (n := 57) (rs := [.tmp 2]) (Is.fn Try.func27) rfl (Is.call Try.call27) Try.results27 Try.ntmps27 trivial ?_
  simp (maxSteps := 4000000) only [method_specs_simp, seval]
  refine SW.while (A := Nat) (fun k => ⟨pad 57 [.agg [.int .i64 n, .sl 3 (xs.map encNote)], .ptr 0 0, .bool false, .junk, .junk, .junk, .sl 3 (xs.map encNote), .int .i64 xs.length, .int .i64 k], [.box true [.int .i64 n, .sl 3 (xs.map encNote)]], []⟩) (fun k => xs.length - k)
        (fun k => k ≤ xs.length ∧ notesOk2 n none xs = notesOk2 n (prevOf xs k) (xs.drop k)) 0 [0] ⟨Nat.zero_le _, ?_⟩ ?_ ?_
  · simp [prevOf]
  · simp only [mvcgen_simp, method_specs_simp, seval]
  · rintro k ⟨hk, hr⟩
    refine CW.sound ?_
    simp (maxSteps := 4000000) only [method_specs_simp, seval]
    refine gB_split (fun h => ?_) (fun h => ?_)
    · simp only [decide_eq_true_eq, Int.ofNat_lt] at h
      have hxk : xs[k]? = some xs[k] := List.getElem?_eq_getElem h
      generalize xs[k] = x at hxk
      simp (maxSteps := 4000000) only [hxk, method_specs_simp, seval, encNote]
      refine ⟨by omega, by omega, by kernel_rfl, ?_⟩
      rw [drop_cons hxk] at hr
      simp only [notesOk2] at hr
      have bad : notesOk2 n none xs = false → false = implOk n xs := fun e => by simp [implOk, e]
      refine clY.con (c78 _ _ _) (by simp only [method_specs_simp]) ?_
      simp (maxSteps := 4000000) only [method_specs_simp, seval]
      refine gB_split (fun h3 => ?_) (fun h3 => ?_)
      · simp only [Bool.not_eq_false'] at h3
        refine clY.con (c79 _) (by simp only [method_specs_simp]) ?_
        simp (maxSteps := 4000000) only [method_specs_simp, seval]
        refine gB_split (fun h4 => ?_) (fun h4 => ?_)
        · simp only [Bool.not_eq_false'] at h4
          refine gB_split (fun h5 => ?_) (fun h5 => ?_)
          · refine gB_split (fun h6 => ?_) (fun h6 => ?_)
            · simp only [decide_eq_true_eq] at h6
              have hk1 : k - 1 < xs.length := by omega
              have hyk : xs[k - 1]? = some xs[k - 1] := List.getElem?_eq_getElem hk1
              generalize xs[k - 1] = y at hyk
              have hp0 : prevOf xs k = some y := by rw [prevOf, if_neg (by omega)]; exact hyk
              rw [hp0] at hr
              have e1 : IntKind.i64.wrap ((k : Int) - 1) = (k - 1 : Nat) := by rw [wrap_id (by omega) (by omega)]; omega
              rw [e1]
              simp (maxSteps := 4000000) only [hyk, method_specs_simp, seval, encNote]
              refine ⟨by omega, by omega, ?_⟩
              refine gB_split (fun h7 => ?_) (fun h7 => ?_)
              · refine bad ?_
                rw [hr]; simp [h7]
              · simp only [Bool.not_true] at h7
                rw [wrap_id (by omega) (by omega)]
                refine Again.mk (k + 1) [0] ⟨h, ?_⟩ (Nat.sub_lt_sub_left h (Nat.lt_succ_self _)) ?_
                · have hp : prevOf xs (k + 1) = some x := by simp [prevOf, hxk]
                  rw [hr, hp]
                  simp [h3, h4, h5, h7]
                · simp only [mvcgen_simp, method_specs_simp, seval]
            · simp only [Bool.not_true, decide_eq_false_iff_not] at h6
              have hp0 : prevOf xs k = none := by rw [prevOf, if_pos (by omega)]
              rw [hp0] at hr
              rw [wrap_id (by omega) (by omega)]
              refine Again.mk (k + 1) [0] ⟨h, ?_⟩ (Nat.sub_lt_sub_left h (Nat.lt_succ_self _)) ?_
              · have hp : prevOf xs (k + 1) = some x := by simp [prevOf, hxk]
                rw [hr, hp]
                simp [h3, h4, h5]
              · simp only [mvcgen_simp, method_specs_simp, seval]
          · refine bad ?_
            rw [hr]; simp [h5]
        · simp only [Bool.not_false, Bool.not_eq_true'] at h4
          refine bad ?_
          rw [hr]; simp [h4]
      · simp only [Bool.not_false, Bool.not_eq_true'] at h3
        refine bad ?_
        rw [hr]; simp [h3]
    · simp only [decide_eq_false_iff_not, Bool.not_true, Int.ofNat_lt] at h
      rw [List.drop_eq_nil_of_le (by omega)] at hr
      simp only [notesOk2] at hr
      refine clY.con (c80 _) (by simp only [method_specs_simp]) ?_
      simp (maxSteps := 4000000) only [method_specs_simp, seval]
      refine gB_split (fun h3 => ?_) (fun h3 => ?_)
      · simp [implOk, hr, h3]
      · simp only [Bool.not_true] at h3
        simp [implOk, hr, h3]
end
end Go.Proofs.Ytkcllejnmpnjfaa
