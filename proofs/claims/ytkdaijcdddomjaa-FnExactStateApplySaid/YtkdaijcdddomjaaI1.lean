/- The functions that the law FnExactInboxRight uses, but for impl.InboxRight: what each hands back. No conditions but the lengths that each theorem names. -/
import Derived.Test.YtkdaijcdddomjaaF
namespace Go.Proofs.Ytkdaijcdddomjaa
open Go.Pm
set_option maxRecDepth 10000


set_option linter.unusedSimpArgs false
structure Note where
  num : Int
  frm : Int
  text : ByteArray
def encNote (x : Note) : List V := [.int .i64 x.num, .int .i64 x.frm, .str x.text]
@[method_specs_simp] theorem encNote_refs (ok : Nat → Prop) (xs : List Note) : Refss ok (xs.map encNote) = True := eq_true (Refss_map fun a => by simp [encNote, Refs, Ref])
@[method_specs_simp] theorem encNote_rens (ρ : Nat → Nat) (xs : List Note) : renss ρ (xs.map encNote) = xs.map encNote := renss_map fun a => by simp [encNote, Refs, Ref]
theorem encNote_length (x : Note) : (encNote x).length = 3 := rfl
def szNote (x : Note) (l : Int) : Int := if IntKind.i64.wrap (l - x.text.size) < 0 then -1 else IntKind.i64.wrap (l - x.text.size)
def eqNote (x y : Note) : Bool := !(x.num != y.num) && (!(x.frm != y.frm) && (x.text.toList == y.text.toList))
def isB (n a b : Int) : Bool := decide (n ≥ a) && decide (n ≤ b)
section
variable {P : Program} [Is P]
theorem c75 (n a b : Int) : Con P 75 [.int .i64 n, .int .i64 a, .int .i64 b] (.bool (isB n a b)) := by
  refine Con.of (n := 15) (rs := [.tmp 6]) (Is.fn Try.func75) rfl (Is.call Try.call75) Try.results75 Try.ntmps75 trivial ?_
  simp (maxSteps := 4000000) only [method_specs_simp, seval]
  refine gB_split (fun h => ?_) (fun h => ?_) <;> simp at h <;> simp [isB, h]
  omega
theorem c74 (n : Int) : Con P 74 [.int .i64 n] (.bool (isB n 0 1000000)) := by
  refine Con.of (n := 5) (rs := [.tmp 2]) (Is.fn Try.func74) rfl (Is.call Try.call74) Try.results74 Try.ntmps74 trivial ?_
  simp (maxSteps := 4000000) only [method_specs_simp, seval]
  refine clY.con (c75 _ _ _) (by simp only [method_specs_simp]) ?_
  simp (maxSteps := 4000000) only [method_specs_simp, seval]
theorem c138 (x : Note) (l : Int) : Con P 138 [.agg (encNote x), .int .i64 l] (.int .i64 (szNote x l)) := by
  refine Con.of (n := 13) (rs := [.tmp 4]) (Is.fn Try.func138) rfl (Is.call Try.call138) Try.results138 Try.ntmps138 trivial ?_
  simp only [method_specs_simp, encNote, seval]
  refine gB_split (fun h => ?_) (fun h => ?_) <;> simp at h <;> simp [szNote, h]
  omega
theorem c139 (x : Note) : Con P 139 [.agg (encNote x)] (.agg (encNote x)) := by
  refine Con.of (n := 14) (rs := [.cell 2 62]) (Is.fn Try.func139) rfl (Is.call Try.call139) Try.results139 Try.ntmps139 (by simp only [method_specs_simp, encNote]) ?_
  simp only [method_specs_simp, encNote, seval]
theorem c140 (x y : Note) : Con P 140 [.agg (encNote x), .agg (encNote y)] (.bool (eqNote x y)) := by
  refine Con.of (n := 20) (rs := [.tmp 4]) (Is.fn Try.func140) rfl (Is.call Try.call140) Try.results140 Try.ntmps140 trivial ?_
  simp only [method_specs_simp, encNote, seval]
  simp only [gB, eqNote]
  cases x.num != y.num <;> cases x.frm != y.frm <;> cases x.text.toList == y.text.toList <;> simp
def szNotes : List Note → Int → Int
  | [], l => l
  | x :: xs, l => if szNote x l < 0 then -1 else szNotes xs (szNote x l)
def szNoteS (xs : List Note) (l : Int) : Int := if IntKind.i64.wrap (l - xs.length) < 0 then -1 else szNotes xs (IntKind.i64.wrap (l - xs.length))
theorem drop_cons {α : Type} {l : List α} {i : Nat} {x : α} (h : l[i]? = some x) : l.drop i = x :: l.drop (i + 1) := by
  have hi := (List.getElem?_eq_some_iff.1 h).1
  have hx := (List.getElem?_eq_some_iff.1 h).2
  rw [← hx, List.getElem_cons_drop]
theorem wrap_id {n : Int} (h1 : -9223372036854775808 ≤ n) (h2 : n < 9223372036854775808) : IntKind.i64.wrap n = n := by
  simp [IntKind.wrap, IntKind.bits, IntKind.signed]
  omega
theorem c73 (xs : List Note) (l : Int) (hx : xs.length < 2 ^ 62) : Con P 73 [.sl 3 (xs.map encNote), .int .i64 l] (.int .i64 (szNoteS xs l)) := by
  refine Con.of (n := 27) (rs := [.tmp 4]) (Is.fn Try.func73) rfl (Is.call Try.call73) Try.results73 Try.ntmps73 trivial ?_
  simp (maxSteps := 4000000) only [method_specs_simp, seval]
  refine gB_split (fun h => ?_) (fun h => ?_)
  · simp at h; simp [szNoteS, h]
  · simp at h
    refine SW.while (A := Nat × Int) (fun a => ⟨pad 27 [.sl 3 (xs.map encNote), .int .i64 a.2, .junk, .junk, .int .i64 0, .int .i64 a.1], [], []⟩) (fun a => xs.length - a.1)
      (fun a => a.1 ≤ xs.length ∧ szNoteS xs l = szNotes (xs.drop a.1) a.2) (0, IntKind.i64.wrap (l - xs.length)) [] ⟨Nat.zero_le _, ?_⟩ ?_ ?_
    · have : ¬ IntKind.i64.wrap (l - xs.length) < 0 := by omega
      simp [szNoteS, this]
    · simp (maxSteps := 4000000) only [method_specs_simp, seval]
    · rintro ⟨k, r⟩ ⟨hk, hr⟩
      refine CW.sound ?_
      simp (maxSteps := 4000000) only [method_specs_simp, seval]
      refine gB_split (fun h => ?_) (fun h => ?_)
      · simp only [decide_eq_true_eq, Int.ofNat_lt] at h
        have hxk : xs[k]? = some xs[k] := List.getElem?_eq_getElem h
        generalize xs[k] = x at hxk
        simp only [List.getElem?_map, hxk, method_specs_simp]
        refine ⟨by omega, by omega, by simp [encNote], ?_⟩
        refine clY.con (c138 x r) (by simp only [method_specs_simp, encNote]) ?_
        simp (maxSteps := 4000000) only [method_specs_simp, seval]
        rw [drop_cons hxk, szNotes] at hr
        refine gB_split (fun h' => ?_) (fun h' => ?_)
        · simp at h'; simp [hr, h']
        · simp at h'
          rw [wrap_id (by omega) (by omega)]
          refine Again.mk (k + 1, szNote x r) [] ⟨h, ?_⟩ (Nat.sub_lt_sub_left h (Nat.lt_succ_self _)) ?_
          · rw [hr, if_neg (Int.not_lt.2 h')]
          · simp (maxSteps := 4000000) only [method_specs_simp, seval]
      · simp only [decide_eq_false_iff_not, Bool.not_true, Int.ofNat_lt] at h
        rw [hr, List.drop_eq_nil_of_le (by simp only; omega), szNotes]
theorem c76 (n : Int) : Con P 76 [.int .i64 n] (.bool (isB n 1 6)) := by
  refine Con.of (n := 5) (rs := [.tmp 2]) (Is.fn Try.func76) rfl (Is.call Try.call76) Try.results76 Try.ntmps76 trivial ?_
  simp (maxSteps := 4000000) only [method_specs_simp, seval]
  refine clY.con (c75 _ _ _) (by simp only [method_specs_simp]) ?_
  simp (maxSteps := 4000000) only [method_specs_simp, seval]
theorem c78 (n a b : Int) : Con P 78 [.int .i64 n, .int .i64 a, .int .i64 b] (.bool (isB n a b)) := by
  refine Con.of (n := 15) (rs := [.tmp 6]) (Is.fn Try.func78) rfl (Is.call Try.call78) Try.results78 Try.ntmps78 trivial ?_
  simp (maxSteps := 4000000) only [method_specs_simp, seval]
  refine gB_split (fun h => ?_) (fun h => ?_) <;> simp at h <;> simp [isB, h]
  omega
theorem c79 (n : Int) : Con P 79 [.int .i64 n] (.bool (isB n 1 6)) := by
  refine Con.of (n := 5) (rs := [.tmp 2]) (Is.fn Try.func79) rfl (Is.call Try.call79) Try.results79 Try.ntmps79 trivial ?_
  simp (maxSteps := 4000000) only [method_specs_simp, seval]
  refine clY.con (c78 _ _ _) (by simp only [method_specs_simp]) ?_
  simp (maxSteps := 4000000) only [method_specs_simp, seval]
theorem c80 (n : Int) : Con P 80 [.int .i64 n] (.bool (isB n 0 1000000)) := by
  refine Con.of (n := 5) (rs := [.tmp 2]) (Is.fn Try.func80) rfl (Is.call Try.call80) Try.results80 Try.ntmps80 trivial ?_
  simp (maxSteps := 4000000) only [method_specs_simp, seval]
  refine clY.con (c78 _ _ _) (by simp only [method_specs_simp]) ?_
  simp (maxSteps := 4000000) only [method_specs_simp, seval]
theorem c15 (n : Int) (xs : List Note) (l : Int) (hx : xs.length < 2 ^ 62) : Con P 15 [.agg [.int .i64 n, .sl 3 (xs.map encNote)], .int .i64 l] (.int .i64 (if szNoteS xs l < 0 then -1 else szNoteS xs l)) := by
  refine Con.of (n := 12) (rs := [.tmp 4]) (Is.fn Try.func15) rfl (Is.call Try.call15) Try.results15 Try.ntmps15 trivial ?_
  simp (maxSteps := 4000000) only [method_specs_simp, seval]
  refine (clY.con (c73 xs l hx) (by simp only [method_specs_simp]) ?_)
  simp (maxSteps := 4000000) only [method_specs_simp, seval]
  refine gB_split (fun h => ?_) (fun h => ?_) <;> simp at h <;> simp [h]
  omega
def eqNotes : List Note → List Note → Bool
  | x :: xs, y :: ys => eqNote x y && eqNotes xs ys
  | _, _ => true
def eqNoteS (xs ys : List Note) : Bool := if (xs.length : Int) != ys.length then false else eqNotes xs ys
theorem c81 (xs ys : List Note) (hx : xs.length < 2 ^ 62) : Con P 81 [.sl 3 (xs.map encNote), .sl 3 (ys.map encNote)] (.bool (eqNoteS xs ys)) := by
  refine Con.of (n := 27) (rs := [.tmp 4]) (Is.fn Try.func81) rfl (Is.call Try.call81) Try.results81 Try.ntmps81 trivial ?_
  simp (maxSteps := 4000000) only [method_specs_simp, seval]
  refine gB_split (fun h => ?_) (fun h => ?_)
  · simp [eqNoteS, h]
  · have hl : xs.length = ys.length := by simp at h; omega
    refine SW.while (A := Nat) (fun k => ⟨pad 27 [.sl 3 (xs.map encNote), .sl 3 (ys.map encNote), .junk, .junk, .bool false, .int .i64 k], [], []⟩) (fun k => xs.length - k)
      (fun k => k ≤ xs.length ∧ eqNoteS xs ys = eqNotes (xs.drop k) (ys.drop k)) 0 [] ⟨Nat.zero_le _, ?_⟩ ?_ ?_
    · simp [eqNoteS, hl]
    · simp (maxSteps := 4000000) only [method_specs_simp, seval]
    · rintro k ⟨hk, hr⟩
      refine CW.sound ?_
      simp (maxSteps := 4000000) only [method_specs_simp, seval]
      refine gB_split (fun h => ?_) (fun h => ?_)
      · simp only [decide_eq_true_eq, Int.ofNat_lt] at h
        have h2 : k < ys.length := by omega
        have hxk : xs[k]? = some xs[k] := List.getElem?_eq_getElem h
        have hyk : ys[k]? = some ys[k] := List.getElem?_eq_getElem h2
        generalize xs[k] = x at hxk
        generalize ys[k] = y at hyk
        simp only [List.getElem?_map, hxk, hyk, method_specs_simp, seval]
        refine ⟨by kernel_rfl, by omega, by omega, by simp [encNote], by omega, by omega, by simp [encNote], ?_⟩
        refine clY.con (c140 x y) (by simp only [method_specs_simp, encNote]) ?_
        simp (maxSteps := 4000000) only [method_specs_simp, seval]
        rw [drop_cons hxk, drop_cons hyk, eqNotes] at hr
        refine gB_split (fun h' => ?_) (fun h' => ?_)
        · simp at h'; simp [hr, h']
        · simp at h'
          rw [wrap_id (by omega) (by omega)]
          refine Again.mk (k + 1) [] ⟨h, ?_⟩ (Nat.sub_lt_sub_left h (Nat.lt_succ_self _)) ?_
          · simp [hr, h']
          · simp (maxSteps := 4000000) only [method_specs_simp, seval]
      · simp only [decide_eq_false_iff_not, Bool.not_true, Int.ofNat_lt] at h
        rw [hr, List.drop_eq_nil_of_le (by omega), eqNotes]
        simp
theorem c77 (xs : List Note) (hx : xs.length * 32 ≤ 2 ^ 47) : Con P 77 [.sl 3 (xs.map encNote)] (.sl 3 (xs.map encNote)) := by
  refine Con.of (n := 23) (rs := [.tmp 2]) (Is.fn Try.func77) rfl (Is.call Try.call77) Try.results77 Try.ntmps77 (by simp only [method_specs_simp]) ?_
  simp (maxSteps := 4000000) only [method_specs_simp, seval]
  refine ⟨by omega, by omega, by omega, ?_⟩
  refine SW.while (A := Nat × List Note) (fun a => ⟨pad 23 [.sl 3 (xs.map encNote), .junk, .nil, .ar 0 0 xs.length, .int .i64 a.1], [.arr true 3 (a.2.map encNote)], []⟩) (fun a => xs.length - a.1)
      (fun a => a.1 ≤ xs.length ∧ a.2.length = xs.length ∧ a.2.take a.1 = xs.take a.1) (0, List.replicate xs.length ⟨0, 0, ByteArray.empty⟩) [0] ⟨Nat.zero_le _, by simp, by simp⟩ ?_ ?_
  · have e : List.replicate xs.length [V.int IntKind.i64 0, V.int IntKind.i64 0, V.str ByteArray.empty] = (List.replicate xs.length (⟨0, 0, ByteArray.empty⟩ : Note)).map encNote := by simp [encNote]
    rw [e]
    simp only [mvcgen_simp, method_specs_simp, seval]
  · rintro ⟨k, ys⟩ ⟨hk, hy, hr⟩
    simp only at hk hy hr
    refine CW.sound ?_
    simp (maxSteps := 4000000) only [method_specs_simp, seval]
    refine gB_split (fun h => ?_) (fun h => ?_)
    · simp only [decide_eq_true_eq, Int.ofNat_lt] at h
      have hxk : xs[k]? = some xs[k] := List.getElem?_eq_getElem h
      generalize hxx : xs[k] = x at hxk
      simp only [List.getElem?_map, hxk, method_specs_simp, seval]
      refine ⟨by omega, by omega, by simp [encNote], ?_⟩
      refine clY.con (c139 x) (by simp only [method_specs_simp, encNote]) ?_
      simp (maxSteps := 4000000) only [method_specs_simp, seval]
      refine ⟨by omega, by omega, by omega, by simp [encNote, oneV], rfl, by simp [encNote], ?_⟩
      rw [wrap_id (by omega) (by omega)]
      refine Again.mk (k + 1, ys.set k x) [0] ⟨h, by simpa using hy, ?_⟩ (Nat.sub_lt_sub_left h (Nat.lt_succ_self _)) ?_
      · apply List.ext_getElem?
        intro i
        have := congrArg (fun l => l[i]?) hr
        simp only [List.getElem?_take, List.getElem?_set] at this ⊢
        by_cases e : k = i
        · subst e; simp [hxx, hy, h]
        · split
          · rw [if_pos (by omega), if_pos (by omega)] at this
            simpa [e] using this
          · rfl
      · have e : (ys.map encNote).getD k [] = encNote ys[k] := by
          rw [List.getD_eq_getElem?_getD, List.getElem?_map, List.getElem?_eq_getElem (by omega)]; rfl
        rw [e]
        have e2 : encNote x ++ List.drop (encNote x).length (encNote ys[k]) = encNote x := by simp [encNote]
        rw [e2, ← List.map_set]
        simp only [mvcgen_simp, method_specs_simp, seval]
    · simp only [decide_eq_false_iff_not, Bool.not_true, Int.ofNat_lt] at h
      have hkk : k = xs.length := by omega
      subst hkk
      have e : ys = xs := by
        rw [List.take_of_length_le (by omega), List.take_of_length_le (Nat.le_refl _)] at hr
        exact hr
      subst e
      rw [← hy]
      simp [← List.map_take, method_specs_simp]
theorem c17 (n : Int) (xs : List Note) (hx : xs.length * 32 ≤ 2 ^ 47) : Con P 17 [.agg [.int .i64 n, .sl 3 (xs.map encNote)]] (.agg [.int .i64 n, .sl 3 (xs.map encNote)]) := by
  refine Con.of (n := 12) (rs := [.cell 2 29]) (Is.fn Try.func17) rfl (Is.call Try.call17) Try.results17 Try.ntmps17 (by simp only [method_specs_simp]) ?_
  simp (maxSteps := 4000000) only [method_specs_simp, seval]
  refine clY.con (c77 xs hx) (by simp only [method_specs_simp]) ?_
  simp (maxSteps := 4000000) only [method_specs_simp, seval]
/-- The notes from i on are right; p is the number before. -/
def notesOk (nx : Int) : Option Note → List Note → Bool
  | _, [] => true
  | p, x :: xs => !(!isB x.num 1 nx || (match p with | none => false | some y => decide (y.num ≥ x.num)) || !isB x.frm 1 6 || decide ((x.text.size : Int) > 30)) && notesOk nx (some x) xs
def prevOf (xs : List Note) (k : Nat) : Option Note := if k = 0 then none else xs[k - 1]?
def specOk (nx : Int) (xs : List Note) : Bool := !(!isB nx 0 1000000 || decide ((xs.length : Int) > 30)) && notesOk nx none xs
theorem c19 (n n' : Int) (xs ys : List Note) (hx : xs.length < 2 ^ 62) : Con P 19 [.agg [.int .i64 n, .sl 3 (xs.map encNote)], .agg [.int .i64 n', .sl 3 (ys.map encNote)]] (.bool (!(n != n') && eqNoteS xs ys)) := by
  refine Con.of (n := 16) (rs := [.tmp 4]) (Is.fn Try.func19) rfl (Is.call Try.call19) Try.results19 Try.ntmps19 trivial ?_
  simp (maxSteps := 4000000) only [method_specs_simp, seval]
  refine gB_split (fun h => ?_) (fun h => ?_)
  · simp [h]
  · simp only [Bool.not_true] at h
    refine clY.con (c81 xs ys hx) (by simp only [method_specs_simp]) ?_
    simp (maxSteps := 4000000) only [method_specs_simp, seval]
    simp only [gB, h]
    cases eqNoteS xs ys <;> simp
theorem c16 (n : Int) (xs : List Note) (hx : xs.length < 2 ^ 62) : Con P 16 [.agg [.int .i64 n, .sl 3 (xs.map encNote)]] (.bool (specOk n xs)) := by
  refine Con.of (n := 61) (rs := [.tmp 2]) (Is.fn Try.func16) rfl (Is.call Try.call16) Try.results16 Try.ntmps16 trivial ?_
  simp (maxSteps := 4000000) only [method_specs_simp, seval]
  refine clY.con (c74 _) (by simp only [method_specs_simp]) ?_
  simp (maxSteps := 4000000) only [method_specs_simp, seval]
  refine gB_split (fun h => ?_) (fun h => ?_)
  · simp only [Bool.not_eq_false'] at h
    refine gB_split (fun h2 => ?_) (fun h2 => ?_)
    · simp only [decide_eq_true_eq] at h2
      simp [specOk, h2]
    · simp only [Bool.not_true, decide_eq_false_iff_not] at h2
      refine SW.while (A := Nat) (fun k => ⟨pad 61 [.agg [.int .i64 n, .sl 3 (xs.map encNote)], .ptr 0 0, .bool false, .int .i64 k], [.box true [.int .i64 n, .sl 3 (xs.map encNote)]], []⟩) (fun k => xs.length - k)
        (fun k => k ≤ xs.length ∧ specOk n xs = notesOk n (prevOf xs k) (xs.drop k)) 0 [0] ⟨Nat.zero_le _, ?_⟩ ?_ ?_
      · simp [specOk, h, h2, prevOf]
      · simp only [mvcgen_simp, method_specs_simp, seval]
      · rintro k ⟨hk, hr⟩
        refine CW.sound ?_
        simp (maxSteps := 4000000) only [method_specs_simp, seval]
        refine gB_split (fun h => ?_) (fun h => ?_)
        · simp only [decide_eq_true_eq, Int.ofNat_lt] at h
          have hxk : xs[k]? = some xs[k] := List.getElem?_eq_getElem h
          generalize xs[k] = x at hxk
          simp only [List.getElem?_map, hxk, method_specs_simp, seval, encNote]
          refine ⟨by omega, by omega, by kernel_rfl, ?_⟩
          rw [drop_cons hxk] at hr
          simp only [notesOk] at hr
          refine clY.con (c75 _ _ _) (by simp only [method_specs_simp]) ?_
          simp (maxSteps := 4000000) only [method_specs_simp, seval]
          refine gB_split (fun h3 => ?_) (fun h3 => ?_)
          · simp only [Bool.not_eq_false'] at h3
            refine gB_split (fun h4 => ?_) (fun h4 => ?_)
            · simp only [decide_eq_true_eq] at h4
              have hk1 : k - 1 < xs.length := by omega
              have hyk : xs[k - 1]? = some xs[k - 1] := List.getElem?_eq_getElem hk1
              generalize xs[k - 1] = y at hyk
              have hp0 : prevOf xs k = some y := by rw [prevOf, if_neg (by omega)]; exact hyk
              rw [hp0] at hr
              have e1 : IntKind.i64.wrap ((k : Int) - 1) = (k - 1 : Nat) := by rw [wrap_id (by omega) (by omega)]; omega
              rw [e1]
              simp (maxSteps := 4000000) only [hyk, method_specs_simp, seval, encNote]
              refine ⟨by omega, by omega, ?_⟩
              refine gB_split (fun h7 => ?_) (fun h7 => ?_)
              · have hprev : decide (y.num ≥ x.num) = false := h7
                refine clY.con (c76 _) (by simp only [method_specs_simp]) ?_
                simp (maxSteps := 4000000) only [method_specs_simp, seval]
                refine gB_split (fun h5 => ?_) (fun h5 => ?_)
                · simp only [Bool.not_eq_false'] at h5
                  refine gB_split (fun h6 => ?_) (fun h6 => ?_)
                  · simp only [decide_eq_true_eq] at h6
                    simp [hr, h6]
                  · simp only [Bool.not_true, decide_eq_false_iff_not] at h6
                    rw [wrap_id (by omega) (by omega)]
                    refine Again.mk (k + 1) [0] ⟨h, ?_⟩ (Nat.sub_lt_sub_left h (Nat.lt_succ_self _)) ?_
                    · have hp : prevOf xs (k + 1) = some x := by simp [prevOf, hxk]
                      rw [hr, hp]
                      simp [h3, h5, h6, hprev]
                    · simp only [mvcgen_simp, method_specs_simp, seval]
                · simp only [Bool.not_false, Bool.not_eq_true'] at h5
                  simp [hr, h5]
              · simp only [Bool.not_false] at h7
                simp [hr, h7]
            · simp only [Bool.not_true, decide_eq_false_iff_not] at h4
              have hp0 : prevOf xs k = none := by rw [prevOf, if_pos (by omega)]
              rw [hp0] at hr
              have hprev : True := trivial
              refine clY.con (c76 _) (by simp only [method_specs_simp]) ?_
              simp (maxSteps := 4000000) only [method_specs_simp, seval]
              refine gB_split (fun h5 => ?_) (fun h5 => ?_)
              · simp only [Bool.not_eq_false'] at h5
                refine gB_split (fun h6 => ?_) (fun h6 => ?_)
                · simp only [decide_eq_true_eq] at h6
                  simp [hr, h6]
                · simp only [Bool.not_true, decide_eq_false_iff_not] at h6
                  rw [wrap_id (by omega) (by omega)]
                  refine Again.mk (k + 1) [0] ⟨h, ?_⟩ (Nat.sub_lt_sub_left h (Nat.lt_succ_self _)) ?_
                  · have hp : prevOf xs (k + 1) = some x := by simp [prevOf, hxk]
                    rw [hr, hp]
                    simp [h3, h5, h6, hprev]
                  · simp only [mvcgen_simp, method_specs_simp, seval]
              · simp only [Bool.not_false, Bool.not_eq_true'] at h5
                simp [hr, h5]
          · simp only [Bool.not_false, Bool.not_eq_true'] at h3
            have hk0 : specOk n xs = false := by rw [hr]; simp [h3]
            rw [hk0]
        · simp only [decide_eq_false_iff_not, Bool.not_true, Int.ofNat_lt] at h
          rw [hr, List.drop_eq_nil_of_le (by omega)]; simp only [notesOk]
  · simp at h
    simp [specOk, h]
end
end Go.Proofs.Ytkdaijcdddomjaa
