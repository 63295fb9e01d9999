/- Inboxes: marks. No conditions but bounds of numbers and lengths. -/
import Derived.Test.YtkcllejnmpnjfaaI5
namespace Go.Proofs.Ytkcllejnmpnjfaa
open Go.Pm
set_option maxRecDepth 10000
set_option linter.unusedSimpArgs false
def mtGo (n : Nat) (out : ByteArray) : ByteArray := if _h : n = 0 then out else mtGo (n / 10) (strOf [(48 + ((n % 10 : Nat) : Int))] ++ out)
termination_by n
decreasing_by omega
theorem mtGo_z {out : ByteArray} : mtGo 0 out = out := by rw [mtGo]; simp
theorem mtGo_s {n : Nat} {out : ByteArray} (h : n ≠ 0) : mtGo n out = mtGo (n / 10) (strOf [(48 + ((n % 10 : Nat) : Int))] ++ out) := by rw [mtGo]; simp [h]
theorem getD_set' {α : Type} {l : List α} {i : Nat} {x d : α} (h : i < l.length) : (l.set i x).getD i d = x := by simp [List.getD_eq_getElem?_getD, h]
def mText (k : Int) : ByteArray := if k ≤ 0 then ⟨#[109, 48]⟩ else ⟨#[109]⟩ ++ mtGo k.toNat ⟨#[]⟩
section
variable {P : Program} [Is P]
theorem c147 (k : Int) (hk : k < 2 ^ 61) : Con P 158 [.int .i64 k] (.str (mText k)) := by
  refine Con.of (n := 20) (rs := [.tmp 2]) (Is.fn Try.func158) rfl (Is.call Try.call158) Try.results158 Try.ntmps158 trivial ?_
  simp (maxSteps := 4000000) only [method_specs_simp, seval]
  refine gB_split (fun h => ?_) (fun h => ?_)
  · simp only [decide_eq_true_eq] at h
    rw [mText, if_pos h]
  · simp only [decide_eq_false_iff_not, Bool.not_true] at h
    refine SW.while (A := Nat × ByteArray) (fun a => ⟨pad 20 [.int .i64 a.1, .junk, .junk, .str a.2], [], []⟩) (fun a => a.1) (fun a => a.1 + a.2.size ≤ k.toNat ∧ mtGo k.toNat ⟨#[]⟩ = mtGo a.1 a.2) (k.toNat, ⟨#[]⟩) [] ⟨by simp [ByteArray.size], rfl⟩ ?_ ?_
    · rw [show ((k.toNat : Nat) : Int) = k by omega]
      simp (maxSteps := 4000000) only [method_specs_simp, seval]
    · rintro ⟨n, out⟩ ⟨hb, hr⟩
      simp only at hb hr
      refine CW.sound ?_
      simp (maxSteps := 4000000) only [method_specs_simp, seval]
      refine gB_split (fun h2 => ?_) (fun h2 => ?_)
      · simp only [decide_eq_true_eq] at h2
        have e1 : IntKind.u8.wrap (IntKind.i64.wrap (48 + (n : Int).tmod 10)) = (48 + ((n % 10 : Nat) : Int)) := by
          rw [Int.tmod_eq_emod_of_nonneg (by omega), wrap_id (by omega) (by omega)]
          simp [IntKind.wrap, IntKind.bits, IntKind.signed]
          omega
        rw [e1]
        refine bytY.mk [(48 + ((n % 10 : Nat) : Int))] rfl ?_
        have hsz : (strOf [(48 + ((n % 10 : Nat) : Int))]).size = 1 := rfl
        simp (maxSteps := 4000000) only [method_specs_simp, seval, hsz]
        refine ⟨by omega, ?_⟩
        have e2 : IntKind.i64.wrap ((n : Int).tdiv 10) = ((n / 10 : Nat) : Int) := by
          rw [Int.tdiv_eq_ediv_of_nonneg (by omega), wrap_id (by omega) (by omega)]
          rfl
        rw [e2]
        refine Again.mk (n / 10, strOf [(48 + ((n % 10 : Nat) : Int))] ++ out) [] ⟨?_, ?_⟩ ?_ ?_
        · simp only [ByteArray.size_append, hsz]; omega
        · rw [hr, mtGo_s (by omega)]
        · simp only; omega
        · simp only [mvcgen_simp, method_specs_simp, seval]
      · simp only [decide_eq_false_iff_not, Bool.not_true] at h2
        have hn : n = 0 := by omega
        subst hn
        rw [mtGo_z] at hr
        refine ⟨?_, ?_⟩
        · have : ByteArray.size { data := #[109] } = 1 := rfl
          omega
        · rw [mText, if_neg h, hr]
/-- The n marks from k on. -/
def mNote (k : Int) : Note := ⟨k, k + 1, mText (k + 2)⟩
def mNotes : Int → Nat → List Note
  | _, 0 => []
  | k, n + 1 => mNote k :: mNotes (k + 3) n
theorem mNotes_length : ∀ (n : Nat) (k : Int), (mNotes k n).length = n
  | 0, k => rfl
  | n + 1, k => by simp [mNotes, mNotes_length n]
theorem mNotes_succ : ∀ (n : Nat) (k : Int), mNotes k (n + 1) = mNotes k n ++ [mNote (k + 3 * n)]
  | 0, k => by simp [mNotes]
  | n + 1, k => by
    rw [mNotes, mNotes_succ n, mNotes, List.cons_append]
    congr 3
    have : ((n + 1 : Nat) : Int) = n + 1 := rfl
    rw [this]
    congr 1
    omega
theorem take_set' {α : Type} {l : List α} {i : Nat} {x : α} (h : i < l.length) : (l.set i x).take (i + 1) = l.take i ++ [x] := by
  apply List.ext_getElem?
  intro j
  simp only [List.getElem?_take, List.getElem?_set, List.getElem?_append, List.length_take]
  rcases Nat.lt_trichotomy j i with hj | hj | hj
  · rw [if_pos (by omega), if_neg (by omega), if_pos (by omega), if_pos hj]
  · subst hj
    rw [if_pos (by omega), if_pos rfl, if_pos h, if_neg (by omega)]
    simp [Nat.min_eq_left (Nat.le_of_lt h)]
  · rw [if_neg (by omega), if_neg (by omega), List.getElem?_eq_none]
    simp; omega
theorem mNotes_get : ∀ (n : Nat) (k : Int) (i : Nat), i < n → (mNotes k n)[i]? = some (mNote (k + 3 * i))
  | n + 1, k, 0, h => by simp [mNotes]
  | n + 1, k, i + 1, h => by
    simp only [mNotes, List.getElem?_cons_succ]
    rw [mNotes_get n _ i (by omega)]
    congr 2; omega
end
end Go.Proofs.Ytkcllejnmpnjfaa
