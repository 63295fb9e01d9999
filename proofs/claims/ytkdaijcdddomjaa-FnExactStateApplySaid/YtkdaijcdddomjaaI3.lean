/- spec.InboxRight and impl.InboxRight answer alike, and the law FnExactInboxRight hands back true. No conditions but a length below 2 to the 62. -/
import Derived.Test.YtkdaijcdddomjaaI2
namespace Go.Proofs.Ytkdaijcdddomjaa
open Go.Pm
set_option maxRecDepth 10000
set_option linter.unusedSimpArgs false
theorem ok_same (n : Int) : ∀ (xs : List Note) (p : Option Note), notesOk n p xs = notesOk2 n p xs
  | [], p => rfl
  | x :: xs, p => by
    simp only [notesOk, notesOk2, ok_same n xs]
    cases isB x.num 1 n <;> cases isB x.frm 1 6 <;> cases decide ((x.text.size : Int) > 30) <;> simp <;> (cases p <;> simp)
theorem spec_impl (n : Int) (xs : List Note) : specOk n xs = implOk n xs := by
  unfold specOk implOk
  rw [ok_same]
  have : decide ((xs.length : Int) ≤ 30) = !decide ((xs.length : Int) > 30) := by
    by_cases h : (xs.length : Int) > 30 <;> simp [h] <;> omega
  rw [this]
  cases isB n 0 1000000 <;> cases decide ((xs.length : Int) > 30) <;> simp
theorem eqNote_same (x : Note) : eqNote x x = true := by simp [eqNote]
theorem eqNotes_same : ∀ xs : List Note, eqNotes xs xs = true
  | [] => rfl
  | x :: xs => by simp [eqNotes, eqNote_same, eqNotes_same xs]
theorem eqNoteS_same (xs : List Note) : eqNoteS xs xs = true := by simp [eqNoteS, eqNotes_same]
section
variable {P : Program} [Is P]
theorem c3 (n : Int) (xs : List Note) (hx : xs.length < 2 ^ 62) : Con P 3 [.agg [.int .i64 n, .sl 3 (xs.map encNote)]] (.bool true) := by
  refine Con.of (n := 27) (rs := [.tmp 2]) (Is.fn Try.func3) rfl (Is.call Try.call3) Try.results3 Try.ntmps3 trivial ?_
  simp only [method_specs_simp, seval]
  refine clY.con (c15 _ _ _ hx) (by simp only [method_specs_simp]) ?_
  simp only [method_specs_simp, seval]
  refine gB_split (fun h => ?_) (fun h => ?_)
  · trivial
  · have hl : xs.length ≤ 1048576 := by
      simp only [Bool.not_true, decide_eq_false_iff_not] at h
      by_cases h' : IntKind.i64.wrap (1048576 - (xs.length : Int)) < 0
      · exact absurd (by simp [szNoteS, h']) h
      · rw [wrap_id (by omega) (by omega)] at h'
        omega
    refine clY.con (c17 _ _ (by omega)) (by simp only [method_specs_simp]) ?_
    simp only [method_specs_simp, seval]
    refine clY.con (c16 _ _ hx) (by simp only [method_specs_simp]) ?_
    simp only [method_specs_simp, seval]
    refine clY.con (c17 _ _ (by omega)) (by simp only [method_specs_simp]) ?_
    simp only [method_specs_simp, seval]
    refine clY.con (c18 _ _ hx) (by simp only [method_specs_simp]) ?_
    simp only [method_specs_simp, seval]
    rw [spec_impl]
    refine gB_split (fun h2 => ?_) (fun h2 => ?_)
    · simp at h2
    · refine ⟨by kernel_rfl, ?_⟩
      refine clY.con (c17 _ _ (by omega)) (by simp only [method_specs_simp]) ?_
      simp only [method_specs_simp, seval]
      refine clY.con (c19 _ _ _ _ hx) (by simp only [method_specs_simp]) ?_
      simp only [method_specs_simp, seval]
      simp [gB, eqNoteS_same]
end
end Go.Proofs.Ytkdaijcdddomjaa
