/- Inboxes: copies, marks, and what is held against them. No conditions but lengths. -/
import Derived.Test.YtkdaijcdddomjaaI3
namespace Go.Proofs.Ytkdaijcdddomjaa
open Go.Pm
set_option maxRecDepth 10000
set_option linter.unusedSimpArgs false
theorem encNote_len (xs : List Note) : (∀ z ∈ xs.map encNote, z.length = 3) = True := eq_true fun z hz => by
  obtain ⟨a, _, rfl⟩ := List.mem_map.1 hz; rfl
theorem encNote_one (m : List Ob) (xs : List Note) : (∀ z ∈ (xs.map encNote).flatten, oneV m z = true) = True := eq_true fun z hz => by
  obtain ⟨l, hl, hz⟩ := List.mem_flatten.1 hz
  obtain ⟨a, _, rfl⟩ := List.mem_map.1 hl
  simp only [encNote, List.mem_cons, List.not_mem_nil, or_false] at hz
  rcases hz with rfl | rfl | rfl <;> rfl
attribute [method_specs_simp ↓] encNote_len encNote_one
theorem flat_notes (xs : List Note) : Flatss (xs.map encNote) := by
  induction xs with
  | nil => trivial
  | cons x xs ih => exact ⟨⟨trivial, trivial, trivial, trivial⟩, ih⟩
theorem pure_notes (lv : Bool) (xs : List Note) : (Ob.arr lv 3 (xs.map encNote)).pure := Refss_map fun a => by simp [encNote, Refs, Ref]
theorem pure1 {ob : Ob} (h : ob.pure) : ∀ o ∈ [ob], o.pure := fun o ho => by
  rw [List.mem_singleton] at ho; rw [ho]; exact h
theorem flat1 {ob : Ob} (h : ob.flat) : ∀ o ∈ [ob], o.flat := fun o ho => by
  rw [List.mem_singleton] at ho; rw [ho]; exact h
section
variable {P : Program} [Is P]
theorem c93 (c : Int) : Con P 93 [.int .i64 c] (.agg [.int .i64 0, .nil, .nil, .int .i64 0, .int .i64 c]) := by
  refine Con.of (n := 5) (rs := [.cell 2 42]) (Is.fn Try.func93) rfl (Is.call Try.call93) Try.results93 Try.ntmps93 (by simp only [method_specs_simp]) ?_
  simp (maxSteps := 4000000) only [method_specs_simp, seval]
theorem n96 (xs : List Note) (hx : xs.length * 32 ≤ 2 ^ 47) : NCon P 96 [.sl 3 (xs.map encNote)] (.ar 0 0 xs.length) [.arr true 3 (xs.map encNote)] := by
  refine LCon.new (LCon.of (n := 8) (rs := [.tmp 2]) (Is.fn Try.func96) rfl (Is.call Try.call96) Try.results96 Try.ntmps96 ?_) (pure1 (pure_notes _ _))
  simp (maxSteps := 4000000) only [method_specs_simp, seval]
  refine nilY.eql (fun h => ?_) ?_
  · rw [List.map_eq_nil_iff] at h
    subst h
    simp (maxSteps := 4000000) only [method_specs_simp, seval]
    exact LResY.nil (by decide)
  · simp (maxSteps := 4000000) only [method_specs_simp, seval]
    refine ⟨by omega, by omega, ?_⟩
    refine LResY.mk [1] ?_
    simp only [mvcgen_simp, method_specs_simp, seval]
theorem n95 (n : Int) (xs : List Note) (hx : xs.length * 32 ≤ 2 ^ 47) : NCon P 95 [.agg [.int .i64 n, .sl 3 (xs.map encNote)]] (.agg [.int .i64 n, .ar 0 0 xs.length]) [.arr true 3 (xs.map encNote)] := by
  refine LCon.new (LCon.of (n := 9) (rs := [.cell 2 29]) (Is.fn Try.func95) rfl (Is.call Try.call95) Try.results95 Try.ntmps95 ?_) (pure1 (pure_notes _ _))
  simp (maxSteps := 4000000) only [method_specs_simp, seval]
  refine ⟨by kernel_rfl, ?_⟩
  refine clY.new (n96 xs hx) (by simp only [method_specs_simp]) ?_
  simp (maxSteps := 4000000) only [method_specs_simp, seval]

  refine LResY.mk [2] ?_
  simp only [mvcgen_simp, method_specs_simp, seval]
theorem n77 (xs : List Note) (hx : xs.length * 32 ≤ 2 ^ 47) : NCon P 77 [.sl 3 (xs.map encNote)] (.ar 0 0 xs.length) [.arr true 3 (xs.map encNote)] := by
  refine LCon.new (LCon.of (n := 23) (rs := [.tmp 2]) (Is.fn Try.func77) rfl (Is.call Try.call77) Try.results77 Try.ntmps77 ?_) (pure1 (pure_notes _ _))
  simp (maxSteps := 4000000) only [method_specs_simp, seval]
  refine ⟨by omega, by omega, by omega, ?_⟩
  refine SW.while (A := Nat × List Note) (fun a => ⟨pad 23 [.sl 3 (xs.map encNote), .junk, .nil, .ar 0 0 xs.length, .int .i64 a.1], [.arr true 3 (a.2.map encNote)], []⟩) (fun a => xs.length - a.1)
      (fun a => a.1 ≤ xs.length ∧ a.2.length = xs.length ∧ a.2.take a.1 = xs.take a.1) (0, List.replicate xs.length ⟨0, 0, ByteArray.empty⟩) [0] ⟨Nat.zero_le _, by simp, by simp⟩ ?_ ?_
  · have e : List.replicate xs.length [V.int IntKind.i64 0, V.int IntKind.i64 0, V.str ByteArray.empty] = (List.replicate xs.length (⟨0, 0, ByteArray.empty⟩ : Note)).map encNote := by simp [encNote]
    rw [e]
    simp only [mvcgen_simp, method_specs_simp, seval]
  · rintro ⟨k, ys⟩ ⟨hk, hy, hr⟩
    simp only at hk hy hr
    refine CW.sound ?_
    simp (maxSteps := 4000000) only [method_specs_simp, seval]
    refine gB_split (fun h => ?_) (fun h => ?_)
    · simp only [decide_eq_true_eq, Int.ofNat_lt] at h
      have hxk : xs[k]? = some xs[k] := List.getElem?_eq_getElem h
      generalize hxx : xs[k] = x at hxk
      simp only [List.getElem?_map, hxk, method_specs_simp, seval]
      refine ⟨by omega, by omega, by simp [encNote], ?_⟩
      refine clY.con (c139 x) (by simp only [method_specs_simp, encNote]) ?_
      simp (maxSteps := 4000000) only [method_specs_simp, seval]
      refine ⟨by omega, by omega, by omega, by simp [encNote, oneV], rfl, by simp [encNote], ?_⟩
      rw [wrap_id (by omega) (by omega)]
      refine Again.mk (k + 1, ys.set k x) [0] ⟨h, by simpa using hy, ?_⟩ (Nat.sub_lt_sub_left h (Nat.lt_succ_self _)) ?_
      · apply List.ext_getElem?
        intro i
        have := congrArg (fun l => l[i]?) hr
        simp only [List.getElem?_take, List.getElem?_set] at this ⊢
        by_cases e : k = i
        · subst e; simp [hxx, hy, h]
        · split
          · rw [if_pos (by omega), if_pos (by omega)] at this
            simpa [e] using this
          · rfl
      · have e : (ys.map encNote).getD k [] = encNote ys[k] := by
          rw [List.getD_eq_getElem?_getD, List.getElem?_map, List.getElem?_eq_getElem (by omega)]; rfl
        rw [e]
        have e2 : encNote x ++ List.drop (encNote x).length (encNote ys[k]) = encNote x := by simp [encNote]
        rw [e2, ← List.map_set]
        simp only [mvcgen_simp, method_specs_simp, seval]
    · simp only [decide_eq_false_iff_not, Bool.not_true, Int.ofNat_lt] at h
      have hkk : k = xs.length := by omega
      subst hkk
      have e : ys = xs := by
        rw [List.take_of_length_le (by omega), List.take_of_length_le (Nat.le_refl _)] at hr
        exact hr
      subst e
      refine LResY.mk [0] ?_
      simp only [mvcgen_simp, method_specs_simp, seval]
theorem n17 (n : Int) (xs : List Note) (hx : xs.length * 32 ≤ 2 ^ 47) : NCon P 17 [.agg [.int .i64 n, .sl 3 (xs.map encNote)]] (.agg [.int .i64 n, .ar 0 0 xs.length]) [.arr true 3 (xs.map encNote)] := by
  refine LCon.new (LCon.of (n := 12) (rs := [.cell 2 29]) (Is.fn Try.func17) rfl (Is.call Try.call17) Try.results17 Try.ntmps17 ?_) (pure1 (pure_notes _ _))
  simp (maxSteps := 4000000) only [method_specs_simp, seval]
  refine clY.new (n77 xs hx) (by simp only [method_specs_simp]) ?_
  simp (maxSteps := 4000000) only [method_specs_simp, seval]
  refine LResY.mk [3] ?_
  simp only [mvcgen_simp, method_specs_simp, seval]
end
end Go.Proofs.Ytkdaijcdddomjaa
