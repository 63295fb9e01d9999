/- Entries: sizes, copies, comparisons, marks, and what is held against them. No conditions but lengths and bounds of numbers. -/
import Derived.Test.YtkcllejnmpnjfaaI6
import Derived.Test.YtkcllejnmpnjfaaL3
namespace Go.Proofs.Ytkcllejnmpnjfaa
open Go.Pm
set_option maxRecDepth 10000
set_option linter.unusedSimpArgs false
set_option linter.unusedVariables false
structure Ent where
  kind : Int
  key : Int
  id : Int
def encEnt (x : Ent) : List V := [.int .i64 x.kind, .int .i64 x.key, .int .i64 x.id]
theorem encEnt_refs1 (ok : Nat → Prop) (x : Ent) : Refs ok (encEnt x) = True := eq_true ⟨trivial, trivial, trivial, trivial⟩
theorem encEnt_rens1 (ρ : Nat → Nat) (x : Ent) : rens ρ (encEnt x) = encEnt x := rfl
@[method_specs_simp] theorem encEnt_refs (ok : Nat → Prop) (xs : List Ent) : Refss ok (xs.map encEnt) = True := eq_true (Refss_map fun a => by simp [encEnt, Refs, Ref])
@[method_specs_simp] theorem encEnt_rens (ρ : Nat → Nat) (xs : List Ent) : renss ρ (xs.map encEnt) = xs.map encEnt := renss_map fun a => by simp [encEnt, Refs, Ref]
theorem encEnt_len (xs : List Ent) : (∀ z ∈ xs.map encEnt, z.length = 3) = True := eq_true fun z hz => by
  obtain ⟨a, _, rfl⟩ := List.mem_map.1 hz; rfl
theorem encEnt_one (m : List Ob) (xs : List Ent) : (∀ z ∈ (xs.map encEnt).flatten, oneV m z = true) = True := eq_true fun z hz => by
  obtain ⟨l, hl, hz⟩ := List.mem_flatten.1 hz
  obtain ⟨a, _, rfl⟩ := List.mem_map.1 hl
  simp only [encEnt, List.mem_cons, List.not_mem_nil, or_false] at hz
  rcases hz with rfl | rfl | rfl <;> rfl
attribute [method_specs_simp ↓] encEnt_len encEnt_one
theorem flat_ents (xs : List Ent) : Flatss (xs.map encEnt) := by
  induction xs with
  | nil => trivial
  | cons x xs ih => exact ⟨⟨trivial, trivial, trivial, trivial⟩, ih⟩
theorem pure_ents (lv : Bool) (xs : List Ent) : (Ob.arr lv 3 (xs.map encEnt)).pure := Refss_map fun a => by simp [encEnt, Refs, Ref]
def eqEnt (x y : Ent) : Bool := !(x.kind != y.kind) && (!(x.key != y.key) && !(x.id != y.id))
def eqEnts : List Ent → List Ent → Bool
  | x :: xs, y :: ys => eqEnt x y && eqEnts xs ys
  | _, _ => true
def eqEntS (xs ys : List Ent) : Bool := if (xs.length : Int) != ys.length then false else eqEnts xs ys
theorem eqEnt_same (x : Ent) : eqEnt x x = true := by simp [eqEnt]
theorem eqEnts_same : ∀ xs : List Ent, eqEnts xs xs = true
  | [] => rfl
  | x :: xs => by simp [eqEnts, eqEnt_same, eqEnts_same xs]
theorem eqEntS_same (xs : List Ent) : eqEntS xs xs = true := by simp [eqEntS, eqEnts_same]
/-- The n marks from k on. -/
def mEnt (k : Int) : Ent := ⟨k, k + 1, k + 2⟩
def mEnts : Int → Nat → List Ent
  | _, 0 => []
  | k, n + 1 => mEnt k :: mEnts (k + 3) n
@[method_specs_simp] theorem mEnts_length : ∀ (n : Nat) (k : Int), (mEnts k n).length = n
  | 0, k => rfl
  | n + 1, k => by simp [mEnts, mEnts_length n]
theorem mEnts_succ : ∀ (n : Nat) (k : Int), mEnts k (n + 1) = mEnts k n ++ [mEnt (k + 3 * n)]
  | 0, k => by simp [mEnts]
  | n + 1, k => by
    rw [mEnts, mEnts_succ n, mEnts, List.cons_append]
    congr 3
    have : ((n + 1 : Nat) : Int) = n + 1 := rfl
    rw [this]
    congr 1
    omega
theorem mEnts_get : ∀ (n : Nat) (k : Int) (i : Nat), i < n → (mEnts k n)[i]? = some (mEnt (k + 3 * i))
  | n + 1, k, 0, h => by simp [mEnts]
  | n + 1, k, i + 1, h => by
    simp only [mEnts, List.getElem?_cons_succ]
    rw [mEnts_get n _ i (by omega)]
    congr 2; omega
@[method_specs_simp] theorem take_mEnts {k : Int} {n : Nat} : List.take n ((mEnts k n).map encEnt) = (mEnts k n).map encEnt := List.take_of_length_le (by simp [mEnts_length])
theorem take_all3 {α β : Type} {f : α → β} {l : List α} : List.take l.length (l.map f) = l.map f := List.take_of_length_le (by simp)
attribute [method_specs_simp] take_all3 decide_false decide_true
section
variable {P : Program} [Is P]
theorem c51 (xs : List Ent) (l : Int) (hx : xs.length < 2 ^ 62) : Con P 113 [.sl 3 (xs.map encEnt), .int .i64 l] (.int .i64 (if IntKind.i64.wrap (l - xs.length) < 0 then -1 else IntKind.i64.wrap (l - xs.length))) := by
  refine Con.of (n := 12) (rs := [.tmp 4]) (Is.fn Try.func113) rfl (Is.call Try.call113) Try.results113 Try.ntmps113 trivial ?_
  simp (maxSteps := 4000000) only [method_specs_simp, seval]
  refine gB_split (fun h => ?_) (fun h => ?_)
  · simp only [decide_eq_true_eq] at h; rw [if_pos h]
  · simp only [decide_eq_false_iff_not, Bool.not_true] at h; rw [if_neg h]
theorem c54 (x : Ent) : Con P 183 [.agg (encEnt x)] (.agg (encEnt x)) := by
  refine Con.of (n := 14) (rs := [.cell 2 101]) (Is.fn Try.func183) rfl (Is.call Try.call183) Try.results183 Try.ntmps183 (by simp only [method_specs_simp, encEnt]) ?_
  simp only [method_specs_simp, encEnt, seval]
theorem c120 (x y : Ent) : Con P 187 [.agg (encEnt x), .agg (encEnt y)] (.bool (eqEnt x y)) := by
  refine Con.of (n := 20) (rs := [.tmp 4]) (Is.fn Try.func187) rfl (Is.call Try.call187) Try.results187 Try.ntmps187 trivial ?_
  simp only [method_specs_simp, encEnt, seval]
  simp only [gB, eqEnt]
  cases x.kind != y.kind <;> cases x.key != y.key <;> cases x.id != y.id <;> simp
theorem c57 (xs ys : List Ent) (hx : xs.length < 2 ^ 62) : Con P 124 [.sl 3 (xs.map encEnt), .sl 3 (ys.map encEnt)] (.bool (eqEntS xs ys)) := by
  refine Con.of (n := 27) (rs := [.tmp 4]) (Is.fn Try.func124) rfl (Is.call Try.call124) Try.results124 Try.ntmps124 trivial ?_
  simp (maxSteps := 4000000) only [method_specs_simp, seval]
  refine gB_split (fun h => ?_) (fun h => ?_)
  · simp [eqEntS, h]
  · have hl : xs.length = ys.length := by simp at h; omega
    refine SW.while (A := Nat) (fun k => ⟨pad 27 [.sl 3 (xs.map encEnt), .sl 3 (ys.map encEnt), .junk, .junk, .bool false, .int .i64 k], [], []⟩) (fun k => xs.length - k)
      (fun k => k ≤ xs.length ∧ eqEntS xs ys = eqEnts (xs.drop k) (ys.drop k)) 0 [] ⟨Nat.zero_le _, ?_⟩ ?_ ?_
    · simp [eqEntS, hl]
    · simp (maxSteps := 4000000) only [method_specs_simp, seval]
    · rintro k ⟨hk, hr⟩
      refine CW.sound ?_
      simp (maxSteps := 4000000) only [method_specs_simp, seval]
      refine gB_split (fun h => ?_) (fun h => ?_)
      · simp only [decide_eq_true_eq, Int.ofNat_lt] at h
        have h2 : k < ys.length := by omega
        have hxk : xs[k]? = some xs[k] := List.getElem?_eq_getElem h
        have hyk : ys[k]? = some ys[k] := List.getElem?_eq_getElem h2
        generalize xs[k] = x at hxk
        generalize ys[k] = y at hyk
        simp only [List.getElem?_map, hxk, hyk, method_specs_simp, seval]
        refine ⟨by kernel_rfl, by omega, by omega, by simp [encEnt], by omega, by omega, by simp [encEnt], ?_⟩
        refine clY.con (c120 x y) (by simp only [method_specs_simp, encEnt]) ?_
        simp (maxSteps := 4000000) only [method_specs_simp, seval]
        rw [drop_cons hxk, drop_cons hyk, eqEnts] at hr
        refine gB_split (fun h' => ?_) (fun h' => ?_)
        · simp at h'; simp [hr, h']
        · simp at h'
          rw [wrap_id (by omega) (by omega)]
          refine Again.mk (k + 1) [] ⟨h, ?_⟩ (Nat.sub_lt_sub_left h (Nat.lt_succ_self _)) ?_
          · simp [hr, h']
          · simp (maxSteps := 4000000) only [method_specs_simp, seval]
      · simp only [decide_eq_false_iff_not, Bool.not_true, Int.ofNat_lt] at h
        rw [hr, List.drop_eq_nil_of_le (by omega), eqEnts]
        simp
theorem n53 (xs : List Ent) (hx : xs.length * 24 ≤ 2 ^ 47) : NCon P 117 [.sl 3 (xs.map encEnt)] (.ar 0 0 xs.length) [.arr true 3 (xs.map encEnt)] := by
  refine LCon.new (LCon.of (n := 23) (rs := [.tmp 2]) (Is.fn Try.func117) rfl (Is.call Try.call117) Try.results117 Try.ntmps117 ?_) (pure1 (pure_ents _ _))
  simp (maxSteps := 4000000) only [method_specs_simp, seval]
  refine ⟨by omega, by omega, by omega, ?_⟩
  refine SW.while (A := Nat × List Ent) (fun a => ⟨pad 23 [.sl 3 (xs.map encEnt), .junk, .nil, .ar 0 0 xs.length, .int .i64 a.1], [.arr true 3 (a.2.map encEnt)], []⟩) (fun a => xs.length - a.1)
      (fun a => a.1 ≤ xs.length ∧ a.2.length = xs.length ∧ a.2.take a.1 = xs.take a.1) (0, List.replicate xs.length ⟨0, 0, 0⟩) [0] ⟨Nat.zero_le _, by simp, by simp⟩ ?_ ?_
  · have e : List.replicate xs.length [V.int IntKind.i64 0, V.int IntKind.i64 0, V.int IntKind.i64 0] = (List.replicate xs.length (⟨0, 0, 0⟩ : Ent)).map encEnt := by simp [encEnt]
    rw [e]
    simp only [mvcgen_simp, method_specs_simp, seval]
  · rintro ⟨k, ys⟩ ⟨hk, hy, hr⟩
    simp only at hk hy hr
    refine CW.sound ?_
    simp (maxSteps := 4000000) only [method_specs_simp, seval]
    refine gB_split (fun h => ?_) (fun h => ?_)
    · simp only [decide_eq_true_eq, Int.ofNat_lt] at h
      have hxk : xs[k]? = some xs[k] := List.getElem?_eq_getElem h
      generalize hxx : xs[k] = x at hxk
      simp only [List.getElem?_map, hxk, method_specs_simp, seval]
      refine ⟨by omega, by omega, by simp [encEnt], ?_⟩
      refine clY.con (c54 x) (by simp only [method_specs_simp, encEnt]) ?_
      simp (maxSteps := 4000000) only [method_specs_simp, seval]
      refine ⟨by omega, by omega, by omega, by simp [encEnt, oneV], rfl, by simp [encEnt], ?_⟩
      rw [wrap_id (by omega) (by omega)]
      refine Again.mk (k + 1, ys.set k x) [0] ⟨h, by simpa using hy, ?_⟩ (Nat.sub_lt_sub_left h (Nat.lt_succ_self _)) ?_
      · apply List.ext_getElem?
        intro i
        have := congrArg (fun l => l[i]?) hr
        simp only [List.getElem?_take, List.getElem?_set] at this ⊢
        by_cases e : k = i
        · subst e; simp [hxx, hy, h]
        · split
          · rw [if_pos (by omega), if_pos (by omega)] at this
            simpa [e] using this
          · rfl
      · have e : (ys.map encEnt).getD k [] = encEnt ys[k] := by
          rw [List.getD_eq_getElem?_getD, List.getElem?_map, List.getElem?_eq_getElem (by omega)]; rfl
        rw [e]
        have e2 : encEnt x ++ List.drop (encEnt x).length (encEnt ys[k]) = encEnt x := by simp [encEnt]
        rw [e2, ← List.map_set]
        simp only [mvcgen_simp, method_specs_simp, seval]
    · simp only [decide_eq_false_iff_not, Bool.not_true, Int.ofNat_lt] at h
      have hkk : k = xs.length := by omega
      subst hkk
      have e : ys = xs := by
        rw [List.take_of_length_le (by omega), List.take_of_length_le (Nat.le_refl _)] at hr
        exact hr
      subst e
      refine LResY.mk [0] ?_
      simp only [mvcgen_simp, method_specs_simp, seval]
theorem c53 (xs : List Ent) (hx : xs.length * 24 ≤ 2 ^ 47) : Con P 117 [.sl 3 (xs.map encEnt)] (.sl 3 (xs.map encEnt)) := by
  have h := (n53 (P := P) xs hx).con (by simp only [method_specs_simp])
  have e : convR [Ob.arr true 3 (xs.map encEnt)] (.ar 0 0 xs.length) = .sl 3 (xs.map encEnt) := by simp only [method_specs_simp]
  rwa [e] at h
theorem n58 (xs : List Ent) (k : Int) (h0 : 0 ≤ k) (h1 : k < 2 ^ 50) (hx : xs.length < 2 ^ 50) : LCon P 126 [.ar 0 0 xs.length, .int .i64 k] [.arr true 3 (xs.map encEnt)] (.int .i64 (k + 3 * xs.length)) [.arr true 3 ((mEnts k xs.length).map encEnt)] := by
  refine LCon.of (n := 34) (rs := [.tmp 4]) (Is.fn Try.func126) rfl (Is.call Try.call126) Try.results126 Try.ntmps126 ?_
  simp (maxSteps := 4000000) only [method_specs_simp, seval]
  refine SW.while (A := Nat × List Ent) (fun a => ⟨pad 34 [.ar 0 0 xs.length, .int .i64 (k + 3 * a.1), .junk, .junk, .junk, .int .i64 a.1], [.arr true 3 (a.2.map encEnt)], [.ar 0 0 xs.length, .eptr 0 1 0]⟩) (fun a => xs.length - a.1)
      (fun a => a.1 ≤ xs.length ∧ a.2.length = xs.length ∧ a.2.take a.1 = mEnts k a.1) (0, xs) [0] ⟨Nat.zero_le _, rfl, rfl⟩ ?_ ?_
  · rw [show k + 3 * ((0 : Nat) : Int) = k by omega]
    simp only [mvcgen_simp, method_specs_simp, seval]
  · rintro ⟨i, ys⟩ ⟨hk, hy, hr⟩
    simp only at hk hy hr
    refine CW.sound ?_
    simp (maxSteps := 4000000) only [method_specs_simp, seval]
    refine gB_split (fun h => ?_) (fun h => ?_)
    · simp only [decide_eq_true_eq, Int.ofNat_lt] at h
      have hl : i < (ys.map encEnt).length := by simp; omega
      obtain ⟨y, hyi⟩ : ∃ y, ys[i]? = some y := ⟨ys[i], List.getElem?_eq_getElem (by omega)⟩
      have eg : (ys.map encEnt).getD i [] = encEnt y := by rw [List.getD_eq_getElem?_getD, List.getElem?_map, hyi]; rfl
      have e1 : IntKind.i64.wrap (k + 3 * i + 1) = k + 3 * i + 1 := wrap_id (by omega) (by omega)
      have e2 : IntKind.i64.wrap (k + 3 * i + 1 + 1) = k + 3 * i + 2 := by rw [wrap_id (by omega) (by omega)]; omega
      have e3 : IntKind.i64.wrap (k + 3 * i + 2 + 1) = k + 3 * ((i + 1 : Nat) : Int) := by rw [wrap_id (by omega) (by omega)]; omega
      have e4 : IntKind.i64.wrap ((i : Int) + 1) = ((i + 1 : Nat) : Int) := by rw [wrap_id (by omega) (by omega)]; rfl
      simp only [e1, e2, e3, e4, eg, encEnt, List.set_set, getD_set' hl, method_specs_simp, seval]
      refine ⟨by omega, by omega, by omega, by omega, by omega, by simp; omega, by omega, by omega, by simp; omega, ?_⟩
      refine Again.mk (i + 1, ys.set i (mEnt (k + 3 * i))) [0] ⟨h, by simpa using hy, ?_⟩ (Nat.sub_lt_sub_left h (Nat.lt_succ_self _)) ?_
      · simp only
        rw [take_set' (by omega), hr, mEnts_succ]
      · have e : [V.int IntKind.i64 (k + 3 * (i : Int)), V.int IntKind.i64 (k + 3 * (i : Int) + 1), V.int IntKind.i64 (k + 3 * (i : Int) + 2)] = encEnt (mEnt (k + 3 * i)) := rfl
        rw [e, ← List.map_set]
        simp only [mvcgen_simp, method_specs_simp, seval]
    · simp only [decide_eq_false_iff_not, Bool.not_true, Int.ofNat_lt] at h
      have hi : i = xs.length := by omega
      subst hi
      have e : ys = mEnts k xs.length := by rw [← hr, List.take_of_length_le (by omega)]
      subst e
      refine LResY.mk [0] ?_
      simp only [mvcgen_simp, method_specs_simp, seval]
theorem c121 (k : Int) (n : Nat) (h0 : 0 ≤ k) (h1 : k < 2 ^ 43) (hx : n < 2 ^ 43) : Con P 128 [.sl 3 ((mEnts k n).map encEnt), .int .i64 k] (.int .i64 (k + 3 * n)) := by
  refine Con.of (n := 40) (rs := [.tmp 4]) (Is.fn Try.func128) rfl (Is.call Try.call128) Try.results128 Try.ntmps128 trivial ?_
  simp (maxSteps := 4000000) only [method_specs_simp, seval, mEnts_length]
  refine SW.while (A := Nat) (fun i => ⟨pad 40 [.sl 3 ((mEnts k n).map encEnt), .int .i64 (k + 3 * i), .junk, .junk, .junk, .int .i64 i], [], []⟩) (fun i => n - i) (fun i => i ≤ n) 0 [] (Nat.zero_le _) ?_ ?_
  · rw [show k + 3 * ((0 : Nat) : Int) = k by omega]
    simp only [mvcgen_simp, method_specs_simp, seval]
  · intro i hi
    refine CW.sound ?_
    simp (maxSteps := 4000000) only [method_specs_simp, seval, mEnts_length]
    refine gB_split (fun h => ?_) (fun h => ?_)
    · simp only [decide_eq_true_eq, Int.ofNat_lt] at h
      have hg := mEnts_get n k i h
      have e1 : IntKind.i64.wrap (k + 3 * i + 1) = k + 3 * i + 1 := wrap_id (by omega) (by omega)
      have e2 : IntKind.i64.wrap (k + 3 * i + 1 + 1) = k + 3 * i + 2 := by rw [wrap_id (by omega) (by omega)]; omega
      have e3 : IntKind.i64.wrap (k + 3 * i + 2 + 1) = k + 3 * ((i + 1 : Nat) : Int) := by rw [wrap_id (by omega) (by omega)]; omega
      have e4 : IntKind.i64.wrap ((i : Int) + 1) = ((i + 1 : Nat) : Int) := by rw [wrap_id (by omega) (by omega)]; rfl
      have e5 : ∀ a : Int, (a != a) = false := fun a => by simp
      simp (maxSteps := 4000000) only [hg, encEnt, mEnt, e1, e2, e3, e4, e5, method_specs_simp, seval]
      refine ⟨by omega, by omega, by omega, by omega, by omega, by omega, ?_⟩
      refine Again.mk (i + 1) [] h (Nat.sub_lt_sub_left h (Nat.lt_succ_self _)) ?_
      simp only [mvcgen_simp, method_specs_simp, seval]
    · simp only [decide_eq_false_iff_not, Bool.not_true, Int.ofNat_lt] at h
      rw [show i = n by omega]
theorem c58m (k : Int) : Con P 126 [.nil, .int .i64 k] (.int .i64 k) := by
  have h : Con P 126 [.sl 3 [], .int .i64 k] (.int .i64 k) := by
    refine Con.of (n := 34) (rs := [.tmp 4]) (Is.fn Try.func126) rfl (Is.call Try.call126) Try.results126 Try.ntmps126 trivial ?_
    simp (maxSteps := 4000000) only [method_specs_simp, seval]
    refine SW.while (A := Unit) (fun _ => ⟨pad 34 [.sl 3 [], .int .i64 k, .junk, .junk, .junk, .int .i64 0], [], []⟩) (fun _ => 0) (fun _ => True) () [] trivial ?_ ?_
    · simp only [mvcgen_simp, method_specs_simp, seval]
    · intro _ _
      refine CW.sound ?_
      simp (maxSteps := 4000000) only [method_specs_simp, seval]
  exact h.weak (VLes.cons (VLe.nil 3) (VLes.same VLes.nil))
end
end Go.Proofs.Ytkcllejnmpnjfaa
