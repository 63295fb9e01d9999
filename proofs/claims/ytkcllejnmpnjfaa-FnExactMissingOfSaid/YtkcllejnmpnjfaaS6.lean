/- Putting an entry into a state, of the reference. No conditions but lengths. -/
import Derived.Test.YtkcllejnmpnjfaaS5
namespace Go.Proofs.Ytkcllejnmpnjfaa
open Go.Pm
set_option maxRecDepth 10000
set_option linter.unusedSimpArgs false
set_option linter.unusedVariables false
/-- Of another kind or key. -/
def otherK (x y : Ent) : Bool := (y.kind != x.kind) || (y.key != x.key)
def without (xs : List Ent) (x : Ent) : List Ent := xs.filter (otherK x)
def lessN (xs : List Ent) (x : Ent) : Nat := (xs.takeWhile fun y => lessE y x).length
def putL (xs : List Ent) (x : Ent) : List Ent := xs.take (lessN xs x) ++ x :: xs.drop (lessN xs x)
theorem filter_s {α : Type} {p : α → Bool} {xs : List α} {i : Nat} {y : α} (h : xs[i]? = some y) : (xs.take (i + 1)).filter p = (xs.take i).filter p ++ (if p y = true then [y] else []) := by
  rw [List.take_add_one, h, List.filter_append]
  congr 1
  simp only [Option.toList_some, List.filter_cons, List.filter_nil]
theorem lessN_le (xs : List Ent) (x : Ent) : lessN xs x ≤ xs.length := by
  unfold lessN
  exact (List.takeWhile_sublist _).length_le
section
variable {P : Program} [Is P]
theorem c154 (xs : List Ent) (x : Ent) (hx : xs.length * 24 ≤ 2 ^ 43) : Con P 228 [.sl 3 (xs.map encEnt), .agg (encEnt x)] (.sl 3 ((without xs x).map encEnt)) := by
  refine Con.of (n := 40) (rs := [.tmp 4]) (Is.fn Try.func228) rfl (Is.call Try.call228) Try.results228 Try.ntmps228 (by simp only [method_specs_simp]) ?_
  simp (maxSteps := 4000000) only [method_specs_simp, seval, encEnt]
  have hfold : [V.int .i64 x.kind, V.int .i64 x.key, V.int .i64 x.id] = encEnt x := rfl
  rw [hfold]
  refine SW.while (A := Nat) (fun i => ⟨pad 40 [.sl 3 (xs.map encEnt), .agg (encEnt x), .junk, .ptr 0 0, .junk, .ar 1 0 (without (xs.take i) x).length, .int .i64 i], [.box true (encEnt x), .arr true 3 ((without (xs.take i) x).map encEnt)], []⟩) (fun i => xs.length - i)
    (fun i => i ≤ xs.length) 0 [0, 1] (Nat.zero_le _) ?_ ?_
  · simp only [without, List.take_zero, List.filter_nil, List.map_nil, List.length_nil]
    simp only [mvcgen_simp, method_specs_simp, seval, encEnt]
  · intro i hi
    refine CW.sound ?_
    simp (maxSteps := 4000000) only [method_specs_simp, seval, encEnt]
    refine gB_split (fun h => ?_) (fun h => ?_)
    · simp only [decide_eq_true_eq, Int.ofNat_lt] at h
      have hxi : xs[i]? = some xs[i] := List.getElem?_eq_getElem h
      generalize xs[i] = y at hxi
      have hf := filter_s (p := otherK x) hxi
      have hlen : ((xs.take i).filter (otherK x)).length ≤ i := Nat.le_trans (List.length_filter_le _ _) (by rw [List.length_take]; omega)
      have hw : IntKind.i64.wrap ((i : Int) + 1) = (i : Int) + 1 := wrap_id (by omega) (by omega)
      simp (maxSteps := 4000000) only [hxi, method_specs_simp, seval, encEnt, hw]
      refine ⟨by kernel_rfl, by omega, by omega, ?_⟩
      have hT : otherK x y = true → without (xs.take (i + 1)) x = without (xs.take i) x ++ [y] := fun ht => by unfold without; rw [hf, if_pos ht]
      have hF : otherK x y = false → without (xs.take (i + 1)) x = without (xs.take i) x := fun ht => by unfold without; rw [hf, if_neg (by simp [ht]), List.append_nil]
      have hle : (without (xs.take i) x).length ≤ i := hlen
      have hcy : [V.int .i64 y.kind, V.int .i64 y.key, V.int .i64 y.id] = encEnt y := rfl
      have app : ∀ l : List Ent, List.map encEnt l ++ [[V.int .i64 y.kind, V.int .i64 y.key, V.int .i64 y.id]] = List.map encEnt (l ++ [y]) := fun l => by rw [List.map_append]; rfl
      have hlapp : ∀ l : List Ent, (l ++ [y]).length = l.length + 1 := fun l => by simp
      cases h1 : y.kind != x.kind with
      | true =>
        have ho : otherK x y = true := by simp only [otherK, h1, Bool.true_or]
        simp only [method_specs_simp]
        refine ⟨by omega, by omega, by omega, by omega, ?_⟩
        refine Again.mk (i + 1) [0, 3] h (Nat.sub_lt_sub_left h (Nat.lt_succ_self _)) ?_
        rw [hT ho, app, hlapp]
        simp only [mvcgen_simp, method_specs_simp, seval, encEnt, hw]
      | false =>
        simp only [method_specs_simp]
        refine ⟨by omega, by omega, ?_⟩
        cases h2 : y.key != x.key with
        | true =>
          have ho : otherK x y = true := by simp only [otherK, h2, Bool.or_true]
          simp only [method_specs_simp]
          refine ⟨by omega, by omega, by omega, by omega, ?_⟩
          refine Again.mk (i + 1) [0, 3] h (Nat.sub_lt_sub_left h (Nat.lt_succ_self _)) ?_
          rw [hT ho, app, hlapp]
          simp only [mvcgen_simp, method_specs_simp, seval, encEnt, hw]
        | false =>
          have ho : otherK x y = false := by simp only [otherK, h1, h2, Bool.or_false]
          simp only [method_specs_simp]
          refine Again.mk (i + 1) [0, 1] h (Nat.sub_lt_sub_left h (Nat.lt_succ_self _)) ?_
          rw [hF ho]
          simp only [mvcgen_simp, method_specs_simp, seval, encEnt, hw]
    · simp only [decide_eq_false_iff_not, Bool.not_true, Int.ofNat_lt] at h
      have hil : i = xs.length := by omega
      rw [hil, List.take_length]
theorem c117 (xs : List Ent) (x : Ent) (hx : (xs.length + 1) * 24 ≤ 2 ^ 43) : Con P 164 [.sl 3 (xs.map encEnt), .agg (encEnt x)] (.sl 3 ((putL (without xs x) x).map encEnt)) := by
  refine Con.of (n := 39) (rs := [.tmp 4]) (Is.fn Try.func164) rfl (Is.call Try.call164) Try.results164 Try.ntmps164 (by simp only [method_specs_simp]) ?_
  simp (maxSteps := 4000000) only [method_specs_simp, seval, encEnt]
  have hfold : [V.int .i64 x.kind, V.int .i64 x.key, V.int .i64 x.id] = encEnt x := rfl
  rw [hfold]
  refine clY.con (c154 xs x (by omega)) (by simp only [method_specs_simp, encEnt]) ?_
  have hll : (without xs x).length ≤ xs.length := List.length_filter_le _ _
  simp (maxSteps := 4000000) only [method_specs_simp, seval, encEnt]
  rw [hfold]
  generalize without xs x = L at *
  refine SW.while (A := Nat) (fun i => ⟨pad 39 [.sl 3 (xs.map encEnt), .agg (encEnt x), .junk, .ptr 0 0, .junk, .sl 3 (L.map encEnt), .int .i64 i], [.box true (encEnt x)], []⟩) (fun i => L.length - i)
    (fun i => i ≤ L.length ∧ lessN L x = i + ((L.drop i).takeWhile fun y => lessE y x).length) 0 [0] ⟨Nat.zero_le _, by simp [lessN]⟩ ?_ ?_
  · simp only [mvcgen_simp, method_specs_simp, seval, encEnt]
  · rintro i ⟨hi, hr⟩
    refine CW.sound ?_
    simp (maxSteps := 4000000) only [method_specs_simp, seval, encEnt]
    refine ⟨by kernel_rfl, ?_⟩
    have hw : IntKind.i64.wrap ((i : Int) + 1) = (i : Int) + 1 := wrap_id (by omega) (by omega)
    have fin : ∀ k : Nat, k ≤ L.length → (List.map encEnt L).take k ++ [encEnt x] ++ (List.map encEnt L).drop k = List.map encEnt (L.take k ++ x :: L.drop k) := fun k _ => by
      rw [List.map_append, List.map_cons, List.map_take, List.map_drop, List.append_assoc]; rfl
    have h0 : ∀ hz : lessN L x = i, putL L x = L.take i ++ x :: L.drop i := fun hz => by unfold putL; rw [hz]
    refine gB_split (fun h => ?_) (fun h => ?_)
    · simp only [decide_eq_true_eq, Int.ofNat_lt] at h
      have hxi : L[i]? = some L[i] := List.getElem?_eq_getElem h
      generalize L[i] = y at hxi
      rw [drop_cons hxi, List.takeWhile_cons] at hr
      have ht : List.take 3 (encEnt y) = encEnt y := rfl
      simp (maxSteps := 4000000) only [hxi, method_specs_simp, seval]
      refine ⟨by omega, by omega, by simp [encEnt], ?_⟩
      rw [ht, hfold]
      refine clY.con (c155 y x) (by simp only [method_specs_simp, encEnt]) ?_
      simp (maxSteps := 4000000) only [method_specs_simp, seval, hw]
      cases hl : lessE y x with
      | true =>
        rw [hl, if_pos rfl, List.length_cons] at hr
        simp only [method_specs_simp]
        refine Again.mk (i + 1) [0] ⟨h, by rw [hr]; omega⟩ (Nat.sub_lt_sub_left h (Nat.lt_succ_self _)) ?_
        simp only [mvcgen_simp, method_specs_simp, seval, encEnt, hw]
      | false =>
        rw [hl, if_neg (by simp), List.length_nil, Nat.add_zero] at hr
        simp only [method_specs_simp]
        have htx : List.take 3 (encEnt x) = encEnt x := rfl
        have hlx : (encEnt x).length = 3 := rfl
        have h1 : ∀ (m : List Ob), ∀ z ∈ encEnt x, oneV m z = true := fun m z hz => by
          simp only [encEnt, List.mem_cons, List.not_mem_nil, or_false] at hz
          rcases hz with rfl | rfl | rfl <;> rfl
        have hL1 : ∀ (m : List Ob) (z : V), z ∈ (List.map encEnt L).flatten → oneV m z = true := fun m => of_eq_true (encEnt_one m L)
        have hL3 : ∀ z ∈ List.map encEnt L, z.length = 3 := fun z hz => by obtain ⟨a, _, rfl⟩ := List.mem_map.1 hz; rfl
        have ht1 : ∀ (m : List Ob) (z : V), z ∈ (List.take i (List.map encEnt L)).flatten → oneV m z = true := fun m z hz => by
          obtain ⟨l, hl, hz⟩ := List.mem_flatten.1 hz
          exact hL1 m z (List.mem_flatten.2 ⟨l, List.mem_of_mem_take hl, hz⟩)
        have hd1 : ∀ (m : List Ob) (z : V), z ∈ (List.drop i (List.map encEnt L)).flatten → oneV m z = true := fun m z hz => by
          obtain ⟨l, hl, hz⟩ := List.mem_flatten.1 hz
          exact hL1 m z (List.mem_flatten.2 ⟨l, List.mem_of_mem_drop hl, hz⟩)
        have hlt : (List.take i (List.map encEnt L)).length = i := by rw [List.length_take, List.length_map]; omega
        have hld : (List.drop i (List.map encEnt L)).length = L.length - i := by rw [List.length_drop, List.length_map]
        have hfin := fin i hi
        have hall : (List.map encEnt L).take i ++ [encEnt x] ++ (List.map encEnt L).drop i = List.map encEnt (putL L x) := by rw [hfin, h0 hr]
        have hlp : (List.map encEnt (putL L x)).length ≤ i + 1 + (L.length - i) := by rw [← hall, List.length_append, List.length_append, hlt, hld]; simp
        simp (maxSteps := 4000000) only [method_specs_simp, seval, htx, hlx, hlt, hld]
        refine ⟨by omega, by omega, fun z hz => hL3 z (List.mem_of_mem_take hz), ht1 _, by omega, by omega, h1 _, by omega, by omega, by omega, by omega, by omega, fun z hz => hL3 z (List.mem_of_mem_drop hz), hd1 _, by omega, by omega, ?_⟩
        rw [hall, List.take_of_length_le hlp]
        simp only [method_specs_simp]
    · simp only [decide_eq_false_iff_not, Bool.not_true, Int.ofNat_lt] at h
      rw [List.drop_eq_nil_of_le (by omega), List.takeWhile_nil, List.length_nil, Nat.add_zero] at hr
      have htx : List.take 3 (encEnt x) = encEnt x := rfl
      have hlx : (encEnt x).length = 3 := rfl
      have h1 : ∀ (m : List Ob), ∀ z ∈ encEnt x, oneV m z = true := fun m z hz => by
        simp only [encEnt, List.mem_cons, List.not_mem_nil, or_false] at hz
        rcases hz with rfl | rfl | rfl <;> rfl
      have hL1 : ∀ (m : List Ob) (z : V), z ∈ (List.map encEnt L).flatten → oneV m z = true := fun m => of_eq_true (encEnt_one m L)
      have hL3 : ∀ z ∈ List.map encEnt L, z.length = 3 := fun z hz => by obtain ⟨a, _, rfl⟩ := List.mem_map.1 hz; rfl
      have ht1 : ∀ (m : List Ob) (z : V), z ∈ (List.take i (List.map encEnt L)).flatten → oneV m z = true := fun m z hz => by
        obtain ⟨l, hl, hz⟩ := List.mem_flatten.1 hz
        exact hL1 m z (List.mem_flatten.2 ⟨l, List.mem_of_mem_take hl, hz⟩)
      have hd1 : ∀ (m : List Ob) (z : V), z ∈ (List.drop i (List.map encEnt L)).flatten → oneV m z = true := fun m z hz => by
        obtain ⟨l, hl, hz⟩ := List.mem_flatten.1 hz
        exact hL1 m z (List.mem_flatten.2 ⟨l, List.mem_of_mem_drop hl, hz⟩)
      have hlt : (List.take i (List.map encEnt L)).length = i := by rw [List.length_take, List.length_map]; omega
      have hld : (List.drop i (List.map encEnt L)).length = L.length - i := by rw [List.length_drop, List.length_map]
      have hfin := fin i hi
      have hall : (List.map encEnt L).take i ++ [encEnt x] ++ (List.map encEnt L).drop i = List.map encEnt (putL L x) := by rw [hfin, h0 hr]
      have hlp : (List.map encEnt (putL L x)).length ≤ i + 1 + (L.length - i) := by rw [← hall, List.length_append, List.length_append, hlt, hld]; simp
      simp (maxSteps := 4000000) only [method_specs_simp, seval, htx, hlx, hlt, hld]
      refine ⟨by omega, by omega, fun z hz => hL3 z (List.mem_of_mem_take hz), ht1 _, by omega, by omega, by omega, by omega, by omega, by omega, by omega, fun z hz => hL3 z (List.mem_of_mem_drop hz), hd1 _, by omega, by omega, ?_⟩
      rw [hfold, hall, List.take_of_length_le hlp]
      simp only [method_specs_simp]
end
end Go.Proofs.Ytkcllejnmpnjfaa
