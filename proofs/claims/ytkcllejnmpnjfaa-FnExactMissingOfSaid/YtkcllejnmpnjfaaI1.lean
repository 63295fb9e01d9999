/- The functions that the law FnExactInboxRight uses, but for impl.InboxRight: what each hands back. No conditions but the lengths that each theorem names. -/
import Derived.Test.YtkcllejnmpnjfaaF
namespace Go.Proofs.Ytkcllejnmpnjfaa
open Go.Pm
set_option maxRecDepth 10000


set_option linter.unusedSimpArgs false
structure Note where
  num : Int
  frm : Int
  text : ByteArray
def encNote (x : Note) : List V := [.int .i64 x.num, .int .i64 x.frm, .str x.text]
@[method_specs_simp] theorem encNote_refs (ok : Nat → Prop) (xs : List Note) : Refss ok (xs.map encNote) = True := eq_true (Refss_map fun a => by simp [encNote, Refs, Ref])
@[method_specs_simp] theorem encNote_rens (ρ : Nat → Nat) (xs : List Note) : renss ρ (xs.map encNote) = xs.map encNote := renss_map fun a => by simp [encNote, Refs, Ref]
theorem encNote_length (x : Note) : (encNote x).length = 3 := rfl
def szNote (x : Note) (l : Int) : Int := if IntKind.i64.wrap (l - x.text.size) < 0 then -1 else IntKind.i64.wrap (l - x.text.size)
def eqNote (x y : Note) : Bool := !(x.num != y.num) && (!(x.frm != y.frm) && (x.text.toList == y.text.toList))
def isB (n a b : Int) : Bool := decide (n ≥ a) && decide (n ≤ b)
section
variable {P : Program} [Is P]
theorem c75 (n a b : Int) : Con P 107 [.int .i64 n, .int .i64 a, .int .i64 b] (.bool (isB n a b)) := by
  refine Con.of (n := 15) (rs := [.tmp 6]) (Is.fn Try.func107) rfl (Is.call Try.call107) Try.results107 Try.ntmps107 trivial ?_
  simp (maxSteps := 4000000) only [method_specs_simp, seval]
  refine gB_split (fun h => ?_) (fun h => ?_) <;> simp at h <;> simp [isB, h]
  omega
theorem c74 (n : Int) : Con P 112 [.int .i64 n] (.bool (isB n 0 1000000)) := by
  refine Con.of (n := 5) (rs := [.tmp 2]) (Is.fn Try.func112) rfl (Is.call Try.call112) Try.results112 Try.ntmps112 trivial ?_
  simp (maxSteps := 4000000) only [method_specs_simp, seval]
  refine clY.con (c75 _ _ _) (by simp only [method_specs_simp]) ?_
  simp (maxSteps := 4000000) only [method_specs_simp, seval]
def szNotes : List Note → Int → Int
  | [], l => l
  | x :: xs, l => if szNote x l < 0 then -1 else szNotes xs (szNote x l)
def szNoteS (xs : List Note) (l : Int) : Int := if IntKind.i64.wrap (l - xs.length) < 0 then -1 else szNotes xs (IntKind.i64.wrap (l - xs.length))
theorem drop_cons {α : Type} {l : List α} {i : Nat} {x : α} (h : l[i]? = some x) : l.drop i = x :: l.drop (i + 1) := by
  have hi := (List.getElem?_eq_some_iff.1 h).1
  have hx := (List.getElem?_eq_some_iff.1 h).2
  rw [← hx, List.getElem_cons_drop]
theorem wrap_id {n : Int} (h1 : -9223372036854775808 ≤ n) (h2 : n < 9223372036854775808) : IntKind.i64.wrap n = n := by
  simp [IntKind.wrap, IntKind.bits, IntKind.signed]
  omega
theorem c76 (n : Int) : Con P 103 [.int .i64 n] (.bool (isB n 1 6)) := by
  refine Con.of (n := 5) (rs := [.tmp 2]) (Is.fn Try.func103) rfl (Is.call Try.call103) Try.results103 Try.ntmps103 trivial ?_
  simp (maxSteps := 4000000) only [method_specs_simp, seval]
  refine clY.con (c75 _ _ _) (by simp only [method_specs_simp]) ?_
  simp (maxSteps := 4000000) only [method_specs_simp, seval]
theorem c78 (n a b : Int) : Con P 105 [.int .i64 n, .int .i64 a, .int .i64 b] (.bool (isB n a b)) := by
  refine Con.of (n := 15) (rs := [.tmp 6]) (Is.fn Try.func105) rfl (Is.call Try.call105) Try.results105 Try.ntmps105 trivial ?_
  simp (maxSteps := 4000000) only [method_specs_simp, seval]
  refine gB_split (fun h => ?_) (fun h => ?_) <;> simp at h <;> simp [isB, h]
  omega
theorem c79 (n : Int) : Con P 101 [.int .i64 n] (.bool (isB n 1 6)) := by
  refine Con.of (n := 5) (rs := [.tmp 2]) (Is.fn Try.func101) rfl (Is.call Try.call101) Try.results101 Try.ntmps101 trivial ?_
  simp (maxSteps := 4000000) only [method_specs_simp, seval]
  refine clY.con (c78 _ _ _) (by simp only [method_specs_simp]) ?_
  simp (maxSteps := 4000000) only [method_specs_simp, seval]
theorem c80 (n : Int) : Con P 111 [.int .i64 n] (.bool (isB n 0 1000000)) := by
  refine Con.of (n := 5) (rs := [.tmp 2]) (Is.fn Try.func111) rfl (Is.call Try.call111) Try.results111 Try.ntmps111 trivial ?_
  simp (maxSteps := 4000000) only [method_specs_simp, seval]
  refine clY.con (c78 _ _ _) (by simp only [method_specs_simp]) ?_
  simp (maxSteps := 4000000) only [method_specs_simp, seval]
def eqNotes : List Note → List Note → Bool
  | x :: xs, y :: ys => eqNote x y && eqNotes xs ys
  | _, _ => true
def eqNoteS (xs ys : List Note) : Bool := if (xs.length : Int) != ys.length then false else eqNotes xs ys
/-- The notes from i on are right; p is the number before. -/
def notesOk (nx : Int) : Option Note → List Note → Bool
  | _, [] => true
  | p, x :: xs => !(!isB x.num 1 nx || (match p with | none => false | some y => decide (y.num ≥ x.num)) || !isB x.frm 1 6 || decide ((x.text.size : Int) > 30)) && notesOk nx (some x) xs
def prevOf (xs : List Note) (k : Nat) : Option Note := if k = 0 then none else xs[k - 1]?
def specOk (nx : Int) (xs : List Note) : Bool := !(!isB nx 0 1000000 || decide ((xs.length : Int) > 30)) && notesOk nx none xs
theorem c16 (n : Int) (xs : List Note) (hx : xs.length < 2 ^ 62) : Con P 28 [.agg [.int .i64 n, .sl 3 (xs.map encNote)]] (.bool (specOk n xs)) := by
  refine Con.of (n := 61) (rs := [.tmp 2]) (Is.fn Try.func28) rfl (Is.call Try.call28) Try.results28 Try.ntmps28 trivial ?_
  simp (maxSteps := 4000000) only [method_specs_simp, seval]
  refine clY.con (c74 _) (by simp only [method_specs_simp]) ?_
  simp (maxSteps := 4000000) only [method_specs_simp, seval]
  refine gB_split (fun h => ?_) (fun h => ?_)
  · simp only [Bool.not_eq_false'] at h
    refine gB_split (fun h2 => ?_) (fun h2 => ?_)
    · simp only [decide_eq_true_eq] at h2
      simp [specOk, h2]
    · simp only [Bool.not_true, decide_eq_false_iff_not] at h2
      refine SW.while (A := Nat) (fun k => ⟨pad 61 [.agg [.int .i64 n, .sl 3 (xs.map encNote)], .ptr 0 0, .bool false, .int .i64 k], [.box true [.int .i64 n, .sl 3 (xs.map encNote)]], []⟩) (fun k => xs.length - k)
        (fun k => k ≤ xs.length ∧ specOk n xs = notesOk n (prevOf xs k) (xs.drop k)) 0 [0] ⟨Nat.zero_le _, ?_⟩ ?_ ?_
      · simp [specOk, h, h2, prevOf]
      · simp only [mvcgen_simp, method_specs_simp, seval]
      · rintro k ⟨hk, hr⟩
        refine CW.sound ?_
        simp (maxSteps := 4000000) only [method_specs_simp, seval]
        refine gB_split (fun h => ?_) (fun h => ?_)
        · simp only [decide_eq_true_eq, Int.ofNat_lt] at h
          have hxk : xs[k]? = some xs[k] := List.getElem?_eq_getElem h
          generalize xs[k] = x at hxk
          simp only [List.getElem?_map, hxk, method_specs_simp, seval, encNote]
          refine ⟨by omega, by omega, by kernel_rfl, ?_⟩
          rw [drop_cons hxk] at hr
          simp only [notesOk] at hr
          refine clY.con (c75 _ _ _) (by simp only [method_specs_simp]) ?_
          simp (maxSteps := 4000000) only [method_specs_simp, seval]
          refine gB_split (fun h3 => ?_) (fun h3 => ?_)
          · simp only [Bool.not_eq_false'] at h3
            refine gB_split (fun h4 => ?_) (fun h4 => ?_)
            · simp only [decide_eq_true_eq] at h4
              have hk1 : k - 1 < xs.length := by omega
              have hyk : xs[k - 1]? = some xs[k - 1] := List.getElem?_eq_getElem hk1
              generalize xs[k - 1] = y at hyk
              have hp0 : prevOf xs k = some y := by rw [prevOf, if_neg (by omega)]; exact hyk
              rw [hp0] at hr
              have e1 : IntKind.i64.wrap ((k : Int) - 1) = (k - 1 : Nat) := by rw [wrap_id (by omega) (by omega)]; omega
              rw [e1]
              simp (maxSteps := 4000000) only [hyk, method_specs_simp, seval, encNote]
              refine ⟨by omega, by omega, ?_⟩
              refine gB_split (fun h7 => ?_) (fun h7 => ?_)
              · have hprev : decide (y.num ≥ x.num) = false := h7
                refine clY.con (c76 _) (by simp only [method_specs_simp]) ?_
                simp (maxSteps := 4000000) only [method_specs_simp, seval]
                refine gB_split (fun h5 => ?_) (fun h5 => ?_)
                · simp only [Bool.not_eq_false'] at h5
                  refine gB_split (fun h6 => ?_) (fun h6 => ?_)
                  · simp only [decide_eq_true_eq] at h6
                    simp [hr, h6]
                  · simp only [Bool.not_true, decide_eq_false_iff_not] at h6
                    rw [wrap_id (by omega) (by omega)]
                    refine Again.mk (k + 1) [0] ⟨h, ?_⟩ (Nat.sub_lt_sub_left h (Nat.lt_succ_self _)) ?_
                    · have hp : prevOf xs (k + 1) = some x := by simp [prevOf, hxk]
                      rw [hr, hp]
                      simp [h3, h5, h6, hprev]
                    · simp only [mvcgen_simp, method_specs_simp, seval]
                · simp only [Bool.not_false, Bool.not_eq_true'] at h5
                  simp [hr, h5]
              · simp only [Bool.not_false] at h7
                simp [hr, h7]
            · simp only [Bool.not_true, decide_eq_false_iff_not] at h4
              have hp0 : prevOf xs k = none := by rw [prevOf, if_pos (by omega)]
              rw [hp0] at hr
              have hprev : True := trivial
              refine clY.con (c76 _) (by simp only [method_specs_simp]) ?_
              simp (maxSteps := 4000000) only [method_specs_simp, seval]
              refine gB_split (fun h5 => ?_) (fun h5 => ?_)
              · simp only [Bool.not_eq_false'] at h5
                refine gB_split (fun h6 => ?_) (fun h6 => ?_)
                · simp only [decide_eq_true_eq] at h6
                  simp [hr, h6]
                · simp only [Bool.not_true, decide_eq_false_iff_not] at h6
                  rw [wrap_id (by omega) (by omega)]
                  refine Again.mk (k + 1) [0] ⟨h, ?_⟩ (Nat.sub_lt_sub_left h (Nat.lt_succ_self _)) ?_
                  · have hp : prevOf xs (k + 1) = some x := by simp [prevOf, hxk]
                    rw [hr, hp]
                    simp [h3, h5, h6, hprev]
                  · simp only [mvcgen_simp, method_specs_simp, seval]
              · simp only [Bool.not_false, Bool.not_eq_true'] at h5
                simp [hr, h5]
          · simp only [Bool.not_false, Bool.not_eq_true'] at h3
            have hk0 : specOk n xs = false := by rw [hr]; simp [h3]
            rw [hk0]
        · simp only [decide_eq_false_iff_not, Bool.not_true, Int.ofNat_lt] at h
          rw [hr, List.drop_eq_nil_of_le (by omega)]; simp only [notesOk]
  · simp at h
    simp [specOk, h]
end
end Go.Proofs.Ytkcllejnmpnjfaa
