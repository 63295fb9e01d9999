/- Inboxes: copies, marks, and what is held against them. No conditions but lengths. -/
import Derived.Test.YtkcllejnmpnjfaaI3
namespace Go.Proofs.Ytkcllejnmpnjfaa
open Go.Pm
set_option maxRecDepth 10000
set_option linter.unusedSimpArgs false
theorem encNote_len (xs : List Note) : (∀ z ∈ xs.map encNote, z.length = 3) = True := eq_true fun z hz => by
  obtain ⟨a, _, rfl⟩ := List.mem_map.1 hz; rfl
theorem encNote_one (m : List Ob) (xs : List Note) : (∀ z ∈ (xs.map encNote).flatten, oneV m z = true) = True := eq_true fun z hz => by
  obtain ⟨l, hl, hz⟩ := List.mem_flatten.1 hz
  obtain ⟨a, _, rfl⟩ := List.mem_map.1 hl
  simp only [encNote, List.mem_cons, List.not_mem_nil, or_false] at hz
  rcases hz with rfl | rfl | rfl <;> rfl
attribute [method_specs_simp ↓] encNote_len encNote_one
theorem flat_notes (xs : List Note) : Flatss (xs.map encNote) := by
  induction xs with
  | nil => trivial
  | cons x xs ih => exact ⟨⟨trivial, trivial, trivial, trivial⟩, ih⟩
theorem pure_notes (lv : Bool) (xs : List Note) : (Ob.arr lv 3 (xs.map encNote)).pure := Refss_map fun a => by simp [encNote, Refs, Ref]
theorem pure1 {ob : Ob} (h : ob.pure) : ∀ o ∈ [ob], o.pure := fun o ho => by
  rw [List.mem_singleton] at ho; rw [ho]; exact h
theorem flat1 {ob : Ob} (h : ob.flat) : ∀ o ∈ [ob], o.flat := fun o ho => by
  rw [List.mem_singleton] at ho; rw [ho]; exact h
section
variable {P : Program} [Is P]
theorem c93 (c : Int) : Con P 102 [.int .i64 c] (.agg [.int .i64 0, .nil, .nil, .int .i64 0, .int .i64 c]) := by
  refine Con.of (n := 5) (rs := [.cell 2 33]) (Is.fn Try.func102) rfl (Is.call Try.call102) Try.results102 Try.ntmps102 (by simp only [method_specs_simp]) ?_
  simp (maxSteps := 4000000) only [method_specs_simp, seval]
theorem n96 (xs : List Note) (hx : xs.length * 32 ≤ 2 ^ 47) : NCon P 106 [.sl 3 (xs.map encNote)] (.ar 0 0 xs.length) [.arr true 3 (xs.map encNote)] := by
  refine LCon.new (LCon.of (n := 8) (rs := [.tmp 2]) (Is.fn Try.func106) rfl (Is.call Try.call106) Try.results106 Try.ntmps106 ?_) (pure1 (pure_notes _ _))
  simp (maxSteps := 4000000) only [method_specs_simp, seval]
  refine nilY.eql (fun h => ?_) ?_
  · rw [List.map_eq_nil_iff] at h
    subst h
    simp (maxSteps := 4000000) only [method_specs_simp, seval]
    exact LResY.nil (by decide)
  · simp (maxSteps := 4000000) only [method_specs_simp, seval]
    refine ⟨by omega, by omega, ?_⟩
    refine LResY.mk [1] ?_
    simp only [mvcgen_simp, method_specs_simp, seval]
theorem n95 (n : Int) (xs : List Note) (hx : xs.length * 32 ≤ 2 ^ 47) : NCon P 99 [.agg [.int .i64 n, .sl 3 (xs.map encNote)]] (.agg [.int .i64 n, .ar 0 0 xs.length]) [.arr true 3 (xs.map encNote)] := by
  refine LCon.new (LCon.of (n := 9) (rs := [.cell 2 25]) (Is.fn Try.func99) rfl (Is.call Try.call99) Try.results99 Try.ntmps99 ?_) (pure1 (pure_notes _ _))
  simp (maxSteps := 4000000) only [method_specs_simp, seval]
  refine ⟨by kernel_rfl, ?_⟩
  refine clY.new (n96 xs hx) (by simp only [method_specs_simp]) ?_
  simp (maxSteps := 4000000) only [method_specs_simp, seval]

  refine LResY.mk [2] ?_
  simp only [mvcgen_simp, method_specs_simp, seval]
end
end Go.Proofs.Ytkcllejnmpnjfaa
