/- StateApply of the reference and of the program. No conditions but lengths. -/
import Derived.Test.YtkdaijcdddomjaaS8
namespace Go.Proofs.Ytkdaijcdddomjaa
open Go.Pm
set_option maxRecDepth 10000
set_option linter.unusedSimpArgs false
set_option linter.unusedVariables false
def applyI (xs ds : List Ent) : List Ent := ds.foldl putI xs
def applyS (xs ds : List Ent) : List Ent := ds.foldl putS xs
theorem apply_same : ∀ (ds xs : List Ent), xs.Pairwise ltE → applyI xs ds = applyS xs ds
  | [], xs, _ => rfl
  | d :: ds, xs, h => by
    have h1 := put_same xs d h
    show applyI (putI xs d) ds = applyS (putS xs d) ds
    rw [apply_same ds _ h1.2, h1.1]
theorem applyI_len : ∀ (ds xs : List Ent), (applyI xs ds).length ≤ xs.length + ds.length
  | [], xs => Nat.le_refl _
  | d :: ds, xs => by
    have h1 := putI_len xs d
    have h2 := applyI_len ds (putI xs d)
    show (applyI (putI xs d) ds).length ≤ _
    simp only [List.length_cons]
    omega
theorem putS_len (xs : List Ent) (x : Ent) : (putS xs x).length ≤ xs.length + 1 := by
  have h1 : (without xs x).length ≤ xs.length := List.length_filter_le _ _
  unfold putS
  split
  · omega
  · unfold putL
    have := lessN_le (without xs x) x
    simp only [List.length_append, List.length_take, List.length_cons, List.length_drop]
    omega
theorem applyS_len : ∀ (ds xs : List Ent), (applyS xs ds).length ≤ xs.length + ds.length
  | [], xs => Nat.le_refl _
  | d :: ds, xs => by
    have h1 := putS_len xs d
    have h2 := applyS_len ds (putS xs d)
    show (applyS (putS xs d) ds).length ≤ _
    simp only [List.length_cons]
    omega
theorem foldl_s {α β : Type} {f : β → α → β} {b : β} {l : List α} {i : Nat} {y : α} (h : l[i]? = some y) : (l.take (i + 1)).foldl f b = f ((l.take i).foldl f b) y := by
  rw [List.take_add_one, h, List.foldl_append]
  rfl
theorem convs_r8 {m : List Ob} {a b c d e f g h : V} {l : List V} : convs m (r8 a b c d e f g h l) = r8 (conv m a) (conv m b) (conv m c) (conv m d) (conv m e) (conv m f) (conv m g) (conv m h) (convs m l) := rfl
theorem conv_junk {m : List Ob} : conv m .junk = .junk := rfl
section
variable {P : Program} [Is P]
theorem c123 (xs ds : List Ent) (hx : xs.length ≤ 400) (hd : ds.length ≤ 400) : Con P 123 [.sl 3 (xs.map encEnt), .sl 3 (ds.map encEnt)] (.sl 3 ((applyS xs ds).map encEnt)) := by
  refine Con.ofS (n := 35) (rs := [.tmp 4]) (Is.fn Try.func123) rfl (Is.call Try.call123) Try.results123 Try.ntmps123 (by simp only [method_specs_simp]) ?_
  refine SW.seq (CW.sound ?_)
  simp (maxSteps := 4000000) only [method_specs_simp, seval]
  refine SW.seq (CW.sound ?_)
  simp (maxSteps := 4000000) only [method_specs_simp, seval]
  refine ⟨by omega, by omega, ?_⟩
  refine SW.freeze [1] ?_
  simp (maxSteps := 4000000) only [mvcgen_simp, method_specs_simp, seval, convs_r8, conv_junk]
  refine SW.seq (CW.sound ?_)
  simp (maxSteps := 4000000) only [method_specs_simp, seval]
  refine SW.while (A := Nat) (fun k => ⟨pad 35 [.sl 3 (xs.map encEnt), .sl 3 (ds.map encEnt), .junk, .junk, .junk, .sl 3 ((applyS xs (ds.take k)).map encEnt), .int .i64 k], [], []⟩) (fun k => ds.length - k) (fun k => k ≤ ds.length) 0 [] (Nat.zero_le _) ?_ ?_
  · simp only [applyS, List.take_zero, List.foldl_nil]
    simp only [mvcgen_simp, method_specs_simp, seval]
  · intro k hk
    refine CW.sound ?_
    simp (maxSteps := 4000000) only [method_specs_simp, seval]
    refine gB_split (fun h => ?_) (fun h => ?_)
    · simp only [decide_eq_true_eq, Int.ofNat_lt] at h
      have hdk : ds[k]? = some ds[k] := List.getElem?_eq_getElem h
      generalize ds[k] = d at hdk
      have hs : applyS xs (ds.take (k + 1)) = putS (applyS xs (ds.take k)) d := foldl_s hdk
      have hl := applyS_len (ds.take k) xs
      rw [List.length_take] at hl
      have hw : IntKind.i64.wrap ((k : Int) + 1) = (k : Int) + 1 := wrap_id (by omega) (by omega)
      have ht : List.take 3 (encEnt d) = encEnt d := rfl
      simp (maxSteps := 4000000) only [hdk, method_specs_simp, seval, encEnt]
      refine ⟨by omega, by omega, ?_⟩
      refine gB_split (fun h2 => ?_) (fun h2 => ?_)
      · simp only [beq_iff_eq] at h2
        have hp : putS (applyS xs (ds.take k)) d = without (applyS xs (ds.take k)) d := by rw [putS, if_pos h2]
        refine ⟨by omega, by omega, ?_⟩
        refine clY.con (c154 _ d (by omega)) (by simp only [method_specs_simp, encEnt]) ?_
        simp (maxSteps := 4000000) only [method_specs_simp, seval, hw]
        refine Again.mk (k + 1) [] h (Nat.sub_lt_sub_left h (Nat.lt_succ_self _)) ?_
        rw [hs, hp]
        simp only [mvcgen_simp, method_specs_simp, seval, hw]
      · simp only [Bool.not_true, beq_eq_false_iff_ne] at h2
        have hp : putS (applyS xs (ds.take k)) d = putL (without (applyS xs (ds.take k)) d) d := by rw [putS, if_neg h2]
        refine ⟨by omega, by omega, ?_⟩
        refine clY.con (c117 _ d (by omega)) (by simp only [method_specs_simp, encEnt]) ?_
        simp (maxSteps := 4000000) only [method_specs_simp, seval, hw]
        refine Again.mk (k + 1) [] h (Nat.sub_lt_sub_left h (Nat.lt_succ_self _)) ?_
        rw [hs, hp]
        simp only [mvcgen_simp, method_specs_simp, seval, hw]
    · simp only [decide_eq_false_iff_not, Bool.not_true, Int.ofNat_lt] at h
      have hkk : k = ds.length := by omega
      rw [hkk, List.take_length]
      refine CW.sound ?_
      simp (maxSteps := 4000000) only [method_specs_simp, seval]
theorem n125 (xs ds : List Ent) (hx : xs.length ≤ 400) (hd : ds.length ≤ 400) : NCon P 125 [.sl 3 (xs.map encEnt), .sl 3 (ds.map encEnt)] (.ar 0 0 (applyI xs ds).length) [.arr true 3 ((applyI xs ds).map encEnt)] := by
  refine LCon.new (LCon.of (n := 21) (rs := [.tmp 4]) (Is.fn Try.func125) rfl (Is.call Try.call125) Try.results125 Try.ntmps125 ?_) (pure1 (pure_ents _ _))
  simp (maxSteps := 4000000) only [method_specs_simp, seval]
  refine clY.new (n131 xs (by omega)) (by simp only [method_specs_simp]) ?_
  simp (maxSteps := 4000000) only [method_specs_simp, seval]
  refine SW.while (A := Nat) (fun k => ⟨pad 21 [.sl 3 (xs.map encEnt), .sl 3 (ds.map encEnt), .junk, .junk, .nil, .ar 0 0 (applyI xs (ds.take k)).length, .junk, .junk, .junk, .junk, .sl 3 (ds.map encEnt), .int .i64 ds.length, .int .i64 k], [.arr true 3 ((applyI xs (ds.take k)).map encEnt)], []⟩) (fun k => ds.length - k) (fun k => k ≤ ds.length) 0 [0] (Nat.zero_le _) ?_ ?_
  · simp only [applyI, List.take_zero, List.foldl_nil]
    simp only [mvcgen_simp, method_specs_simp, seval]
  · intro k hk
    refine CW.sound ?_
    simp (maxSteps := 4000000) only [method_specs_simp, seval]
    refine gB_split (fun h => ?_) (fun h => ?_)
    · simp only [decide_eq_true_eq, Int.ofNat_lt] at h
      have hdk : ds[k]? = some ds[k] := List.getElem?_eq_getElem h
      generalize ds[k] = d at hdk
      have hs : applyI xs (ds.take (k + 1)) = putI (applyI xs (ds.take k)) d := foldl_s hdk
      have hl := applyI_len (ds.take k) xs
      rw [List.length_take] at hl
      have hw : IntKind.i64.wrap ((k : Int) + 1) = (k : Int) + 1 := wrap_id (by omega) (by omega)
      simp (maxSteps := 4000000) only [hdk, method_specs_simp, seval, encEnt]
      refine ⟨by omega, by omega, ?_⟩
      refine clY.newF (n119 (applyI xs (ds.take k)) d (by omega)) (by simp only [method_specs_simp, encEnt]) ⟨of_eq_true (encEnt_refs _ _), of_eq_true (encEnt_refs1 _ d), trivial⟩ trivial (flat1 ⟨rfl, flat_ents _⟩) ?_
      simp (maxSteps := 4000000) only [method_specs_simp, seval, hw]
      refine Again.mk (k + 1) [2] h (Nat.sub_lt_sub_left h (Nat.lt_succ_self _)) ?_
      rw [hs]
      simp only [mvcgen_simp, method_specs_simp, seval, hw]
    · simp only [decide_eq_false_iff_not, Bool.not_true, Int.ofNat_lt] at h
      have hkk : k = ds.length := by omega
      rw [hkk, List.take_length]
      refine LResY.mk [0] ?_
      simp only [mvcgen_simp, method_specs_simp, seval]
theorem gt_f {n : Nat} (h : n ≤ 400) : decide ((n : Int) > 400) = false := by simp; omega
theorem gt_t {n : Nat} (h : ¬ n ≤ 400) : decide ((n : Int) > 400) = true := by simp; omega
theorem c61 (xs ds : List Ent) (hx : xs.length ≤ 400) (hd : ds.length ≤ 400) (h1 : okRow (entI 1) xs = true) (h2 : okRow (entI 0) ds = true) : Con P 61 [.sl 3 (xs.map encEnt), .sl 3 (ds.map encEnt)] (.agg [.sl 3 ((applyI xs ds).map encEnt), .int .i64 0]) := by
  refine Con.of (n := 27) (rs := [.cell 4 76]) (Is.fn Try.func61) rfl (Is.call Try.call61) Try.results61 Try.ntmps61 (by simp only [method_specs_simp]) ?_
  have b1 := gt_f hx
  have b2 := gt_f hd
  have h115 := c115 (P := P) xs (by omega)
  rw [decide_eq_true hx, okRow_f, h1] at h115
  have h122 := c122 (P := P) ds true (by omega)
  rw [decide_eq_true hd, okRow_t, h2] at h122
  have h123 := c123 (P := P) xs ds hx hd
  rw [← apply_same ds xs (okRow_sorted h1)] at h123
  simp (maxSteps := 4000000) only [method_specs_simp, seval, b1, b2]
  refine clY.con h115 (by simp only [method_specs_simp]) ?_
  simp (maxSteps := 4000000) only [method_specs_simp, seval]
  refine clY.con h122 (by simp only [method_specs_simp]) ?_
  simp (maxSteps := 4000000) only [method_specs_simp, seval]
  refine clY.con h123 (by simp only [method_specs_simp]) ?_
  simp (maxSteps := 4000000) only [method_specs_simp, seval]
theorem c61e (xs ds : List Ent) (hx : xs.length ≤ 400) (hd : ds.length ≤ 400) (h : (okRow (entI 1) xs && okRow (entI 0) ds) = false) : Con P 61 [.sl 3 (xs.map encEnt), .sl 3 (ds.map encEnt)] (.agg [.nil, .int .i64 1]) := by
  refine Con.of (n := 27) (rs := [.cell 4 76]) (Is.fn Try.func61) rfl (Is.call Try.call61) Try.results61 Try.ntmps61 (by simp only [method_specs_simp]) ?_
  have b1 := gt_f hx
  have b2 := gt_f hd
  have h115 := c115 (P := P) xs (by omega)
  rw [decide_eq_true hx, okRow_f, Bool.true_and] at h115
  have h122 := c122 (P := P) ds true (by omega)
  rw [decide_eq_true hd, okRow_t, Bool.true_and] at h122
  simp (maxSteps := 4000000) only [method_specs_simp, seval, b1, b2]
  refine clY.con h115 (by simp only [method_specs_simp]) ?_
  simp (maxSteps := 4000000) only [method_specs_simp, seval]
  cases h1 : okRow (entI 1) xs with
  | false => simp (maxSteps := 4000000) only [method_specs_simp, seval]
  | true =>
    rw [h1, Bool.true_and] at h
    rw [h] at h122
    simp (maxSteps := 4000000) only [method_specs_simp, seval]
    refine clY.con h122 (by simp only [method_specs_simp]) ?_
    simp (maxSteps := 4000000) only [method_specs_simp, seval]
theorem c61s (xs ds : List Ent) (h : ¬ (xs.length ≤ 400 ∧ ds.length ≤ 400)) : Con P 61 [.sl 3 (xs.map encEnt), .sl 3 (ds.map encEnt)] (.agg [.nil, .int .i64 2]) := by
  refine Con.of (n := 27) (rs := [.cell 4 76]) (Is.fn Try.func61) rfl (Is.call Try.call61) Try.results61 Try.ntmps61 (by simp only [method_specs_simp]) ?_
  by_cases hx : xs.length ≤ 400
  · have b1 := gt_f hx
    have b2 := gt_t (fun hd => h ⟨hx, hd⟩)
    simp (maxSteps := 4000000) only [method_specs_simp, seval, b1, b2]
  · have b1 := gt_t hx
    simp (maxSteps := 4000000) only [method_specs_simp, seval, b1]
theorem c62s (xs ds : List Ent) (h : ¬ (xs.length ≤ 400 ∧ ds.length ≤ 400)) : Con P 62 [.sl 3 (xs.map encEnt), .sl 3 (ds.map encEnt)] (.agg [.nil, .int .i64 2]) := by
  refine Con.of (n := 29) (rs := [.cell 4 76]) (Is.fn Try.func62) rfl (Is.call Try.call62) Try.results62 Try.ntmps62 (by simp only [method_specs_simp]) ?_
  by_cases hx : xs.length ≤ 400
  · have b1 := gt_f hx
    have b2 := gt_t (fun hd => h ⟨hx, hd⟩)
    simp (maxSteps := 4000000) only [method_specs_simp, seval, b1, b2]
  · have b1 := gt_t hx
    simp (maxSteps := 4000000) only [method_specs_simp, seval, b1]
theorem c62e (xs ds : List Ent) (hx : xs.length ≤ 400) (hd : ds.length ≤ 400) (h : (okRow (entI 1) xs && okRow (entI 0) ds) = false) : Con P 62 [.sl 3 (xs.map encEnt), .sl 3 (ds.map encEnt)] (.agg [.nil, .int .i64 1]) := by
  refine Con.of (n := 29) (rs := [.cell 4 76]) (Is.fn Try.func62) rfl (Is.call Try.call62) Try.results62 Try.ntmps62 (by simp only [method_specs_simp]) ?_
  have b1 := gt_f hx
  have b2 := gt_f hd
  have h118 := c118 (P := P) xs (by omega)
  rw [decide_eq_true hx, Bool.and_true] at h118
  have h124 := c124 (P := P) ds 0 (by omega)
  rw [decide_eq_true hd, Bool.and_true] at h124
  simp (maxSteps := 4000000) only [method_specs_simp, seval, b1, b2]
  refine clY.con h118 (by simp only [method_specs_simp]) ?_
  simp (maxSteps := 4000000) only [method_specs_simp, seval]
  cases h1 : okRow (entI 1) xs with
  | false => simp (maxSteps := 4000000) only [method_specs_simp, seval]
  | true =>
    rw [h1, Bool.true_and] at h
    rw [h] at h124
    simp (maxSteps := 4000000) only [method_specs_simp, seval]
    refine clY.con h124 (by simp only [method_specs_simp]) ?_
    simp (maxSteps := 4000000) only [method_specs_simp, seval]
theorem n62 (xs ds : List Ent) (hx : xs.length ≤ 400) (hd : ds.length ≤ 400) (h1 : okRow (entI 1) xs = true) (h2 : okRow (entI 0) ds = true) : NCon P 62 [.sl 3 (xs.map encEnt), .sl 3 (ds.map encEnt)] (.agg [.ar 0 0 (applyI xs ds).length, .int .i64 0]) [.arr true 3 ((applyI xs ds).map encEnt)] := by
  refine LCon.new (LCon.of (n := 29) (rs := [.cell 4 76]) (Is.fn Try.func62) rfl (Is.call Try.call62) Try.results62 Try.ntmps62 ?_) (pure1 (pure_ents _ _))
  have b1 := gt_f hx
  have b2 := gt_f hd
  have h118 := c118 (P := P) xs (by omega)
  rw [decide_eq_true hx, h1] at h118
  have h124 := c124 (P := P) ds 0 (by omega)
  rw [decide_eq_true hd, h2] at h124
  simp (maxSteps := 4000000) only [method_specs_simp, seval, b1, b2]
  refine clY.con h118 (by simp only [method_specs_simp]) ?_
  simp (maxSteps := 4000000) only [method_specs_simp, seval]
  refine clY.con h124 (by simp only [method_specs_simp]) ?_
  simp (maxSteps := 4000000) only [method_specs_simp, seval]
  refine clY.new (n125 xs ds hx hd) (by simp only [method_specs_simp]) ?_
  simp (maxSteps := 4000000) only [method_specs_simp, seval]
  refine LResY.mk [1] ?_
  simp only [mvcgen_simp, method_specs_simp, seval]
end
end Go.Proofs.Ytkdaijcdddomjaa
