/- slices.Insert, slices.Delete and slices.Clone at entries. No conditions but lengths. -/
import Derived.Test.YtkcllejnmpnjfaaS1
import Derived.Test.YtkcllejnmpnjfaaL3
namespace Go.Proofs.Ytkcllejnmpnjfaa
open Go.Pm
set_option maxRecDepth 10000
set_option linter.unusedSimpArgs false
set_option linter.unusedVariables false
theorem ins_a {α : Type} (L : List α) (y z : α) (n i : Nat) (hi : i < n) (hL : L.length = n) : (L.take i ++ List.replicate (n + 1 - i) z).take i ++ [y] ++ (L.take i ++ List.replicate (n + 1 - i) z).drop (i + 1) = L.take i ++ y :: List.replicate (n - i) z := by
  have hl : (L.take i).length = i := by rw [List.length_take]; omega
  rw [List.take_append_of_le_length (by omega), List.take_of_length_le (by omega), List.drop_append, List.drop_eq_nil_of_le (by omega), hl, List.drop_replicate, List.nil_append, show n + 1 - i - (i + 1 - i) = n - i by omega]
  rw [List.append_assoc]; rfl
theorem ins_b {α : Type} (L : List α) (y z : α) (n i : Nat) (hi : i < n) (hL : L.length = n) : (L.take i ++ y :: List.replicate (n - i) z).take (i + 1) ++ L.drop i ++ (L.take i ++ y :: List.replicate (n - i) z).drop (i + 1 + (n - i)) = L.take i ++ y :: L.drop i := by
  have hl : (L.take i).length = i := by rw [List.length_take]; omega
  have e : L.take i ++ y :: List.replicate (n - i) z = (L.take i ++ [y]) ++ List.replicate (n - i) z := by simp
  have hl2 : (L.take i ++ [y]).length = i + 1 := by simp; omega
  have e3 : List.drop (i + 1 + (n - i)) ((L.take i ++ [y]) ++ List.replicate (n - i) z) = [] := List.drop_eq_nil_of_le (by rw [List.length_append, hl2, List.length_replicate]; omega)
  rw [e, e3, List.take_append_of_le_length (by omega), List.take_of_length_le (by omega)]
  simp
theorem ins_c {α : Type} (L J : List α) (y : α) (n i : Nat) (hi : i < n) (hL : L.length = n) :
    (((L ++ J).take (i + 1) ++ L.drop i ++ (L ++ J).drop (i + 1 + (n - i))).take i ++ [y] ++ ((L ++ J).take (i + 1) ++ L.drop i ++ (L ++ J).drop (i + 1 + (n - i))).drop (i + 1)).take (n + 1) = L.take i ++ y :: L.drop i := by
  have h1 : (L ++ J).take (i + 1) = L.take (i + 1) := List.take_append_of_le_length (by omega)
  have h2 : (L.take (i + 1)).length = i + 1 := by rw [List.length_take]; omega
  have h3 : (L.take i).length = i := by rw [List.length_take]; omega
  have h4 : (L.drop i).length = n - i := by rw [List.length_drop]; omega
  generalize (L ++ J).drop (i + 1 + (n - i)) = R
  have a1 : (L.take (i + 1) ++ (L.drop i ++ R)).take i = L.take i := by rw [List.take_append_of_le_length (by omega), List.take_take, Nat.min_eq_left (by omega)]
  have a2 : (L.take (i + 1) ++ (L.drop i ++ R)).drop (i + 1) = L.drop i ++ R := by rw [List.drop_append, List.drop_eq_nil_of_le (by omega), h2, Nat.sub_self, List.drop_zero, List.nil_append]
  have a3 : ((L.take i ++ [y]) ++ L.drop i).length = n + 1 := by rw [List.length_append, List.length_append, h3, h4]; simp; omega
  rw [h1, List.append_assoc (L.take (i + 1)), a1, a2, ← List.append_assoc, List.take_append_of_le_length (by omega), List.take_of_length_le (by omega), List.append_assoc]
  rfl
theorem del_a {α : Type} (L M R : List α) (Z : List α) (n i : Nat) (hi : i < n) (hL : L.length = n) (hM : M.take i = L.take i) : (((M.take i ++ L.drop (i + 1) ++ R).take (n - 1)) ++ Z).take (n - 1) = L.take i ++ L.drop (i + 1) := by
  have h3 : (L.take i).length = i := by rw [List.length_take]; omega
  have h4 : (L.drop (i + 1)).length = n - (i + 1) := by rw [List.length_drop]; omega
  have h5 : (L.take i ++ L.drop (i + 1)).length = n - 1 := by rw [List.length_append, h3, h4]; omega
  rw [hM]
  have h6 : (L.take i ++ L.drop (i + 1) ++ R).take (n - 1) = L.take i ++ L.drop (i + 1) := by
    rw [List.take_append_of_le_length (by omega), List.take_of_length_le (by omega)]
  rw [h6, List.take_append_of_le_length (by omega), List.take_of_length_le (by omega)]
section
variable {P : Program} [Is P]
theorem n131 (xs : List Ent) (hx : xs.length * 24 ≤ 2 ^ 47) : NCon P 120 [.sl 3 (xs.map encEnt)] (.ar 0 0 xs.length) [.arr true 3 (xs.map encEnt)] := by
  refine LCon.new (LCon.of (n := 8) (rs := [.tmp 2]) (Is.fn Try.func120) rfl (Is.call Try.call120) Try.results120 Try.ntmps120 ?_) (pure1 (pure_ents _ _))
  simp (maxSteps := 4000000) only [method_specs_simp, seval]
  refine nilY.eql (fun h => ?_) ?_
  · rw [List.map_eq_nil_iff] at h
    subst h
    simp (maxSteps := 4000000) only [method_specs_simp, seval]
    exact LResY.nil (by decide)
  · simp (maxSteps := 4000000) only [method_specs_simp, seval]
    refine ⟨by omega, by omega, ?_⟩
    refine LResY.mk [1] ?_
    simp only [mvcgen_simp, method_specs_simp, seval]
theorem ov169 {m : List Ob} {x y : V} {q off len q' off' len' : Nat} {zs zs' : List (List V)} (hx : AsAr x q off len) (hy : AsAr y q' off' len') (h1 : 0 < len) (h2 : 0 < len') (hne : q ≠ q') (hq : m[q]? = some (.arr true 3 zs)) (hq' : m[q']? = some (.arr true 3 zs')) : ovOK P 249 m [x, y] :=
  ⟨Try.f249, 50, 4, 101, 3, true, x, y, q, off, len, q', off', len', zs, zs', Is.fn Try.func249, by kernel_rfl, by kernel_rfl, by kernel_rfl, by kernel_rfl, elt50, lay101, rfl, hx, hy, h1, h2, hne, hq, hq'⟩
theorem n158 (xs : List Ent) (x : Ent) (i : Nat) (hi : i ≤ xs.length) (hx : (xs.length + 1) * 24 ≤ 2 ^ 43) : LCon P 224 [.ar 0 0 xs.length, .int .i64 i, .ar 1 0 1] [.arr true 3 (xs.map encEnt), .arr true 3 [encEnt x]] (.ar 2 0 (xs.length + 1))
    [.dead, .arr true 3 [encEnt x], .arr true 3 ((xs.take i ++ x :: xs.drop i).map encEnt)] := by
  refine LCon.ofS (n := 95) (rs := [.tmp 6]) (Is.fn Try.func224) rfl (Is.call Try.call224) Try.results224 Try.ntmps224 ?_
  refine SW.seq (CW.sound ?_)
  simp (maxSteps := 4000000) only [method_specs_simp, seval]
  refine SW.seq (CW.sound ?_)
  simp (maxSteps := 4000000) only [method_specs_simp, seval]
  refine ⟨by omega, by omega, by omega, ?_⟩
  refine SW.seq (CW.sound ?_)
  simp (maxSteps := 4000000) only [method_specs_simp, seval]
  refine SW.seq (CW.sound ?_)
  simp (maxSteps := 4000000) only [method_specs_simp, seval]
  refine SW.seq (CW.sound ?_)
  simp (maxSteps := 4000000) only [method_specs_simp, seval]
  refine SW.seq (CW.sound ?_)
  simp (maxSteps := 4000000) only [method_specs_simp, seval]
  refine gB_split (fun h => ?_) (fun h => ?_)
  · have hin : i = xs.length := by simp only [beq_iff_eq] at h; omega
    refine ⟨rfl, by simp [encEnt], by omega, by omega, ?_⟩
    have e : List.map encEnt xs ++ [encEnt x] = List.map encEnt (xs.take i ++ x :: xs.drop i) := by
      rw [hin, List.take_length, List.drop_length, List.map_append]; rfl
    rw [e]
    refine LResY.mk [0, 1, 2] ?_
    simp only [mvcgen_simp, method_specs_simp, seval, encEnt]
    trace_state
  · have hin : i < xs.length := by simp at h; omega
    refine SW.reveal 0 0 xs.length 3 (xs.map encEnt) rfl rfl (fun c hc hc2 => ?_)
    simp (maxSteps := 4000000) only [method_specs_simp, seval] at hc ⊢
    have e1 : IntKind.i64.wrap ((xs.length : Int) + 1) = (xs.length : Int) + 1 := wrap_id (by omega) (by omega)
    have e2 : IntKind.i64.wrap ((xs.length : Int) + 1 - i) = ((xs.length + 1 - i : Nat) : Int) := by rw [wrap_id (by omega) (by omega)]; omega
    have e3 : IntKind.i64.wrap ((i : Int) + 1) = (i : Int) + 1 := wrap_id (by omega) (by omega)
    have e4 : ((i : Int) + 1).toNat = i + 1 := by omega
    have e5 : ((xs.length : Int) + 1).toNat = xs.length + 1 := by omega
    have hL3 : ∀ z ∈ List.map encEnt xs, z.length = 3 := fun z hz => by obtain ⟨a, _, rfl⟩ := List.mem_map.1 hz; rfl
    have hL1 : ∀ (m : List Ob) (z : V), z ∈ (List.map encEnt xs).flatten → oneV m z = true := fun m => of_eq_true (encEnt_one m xs)
    have hLn : (List.map encEnt xs).length = xs.length := List.length_map _
    have hgoal : List.map encEnt (xs.take i ++ x :: xs.drop i) = (List.map encEnt xs).take i ++ encEnt x :: (List.map encEnt xs).drop i := by rw [List.map_append, List.map_cons, List.map_take, List.map_drop]
    have hgR : ∀ ok : Nat → Prop, Refss ok ((List.map encEnt xs).take i ++ encEnt x :: (List.map encEnt xs).drop i) := fun ok => by rw [← hgoal]; exact of_eq_true (encEnt_refs ok _)
    have hgr : ∀ ρ : Nat → Nat, renss ρ ((List.map encEnt xs).take i ++ encEnt x :: (List.map encEnt xs).drop i) = (List.map encEnt xs).take i ++ encEnt x :: (List.map encEnt xs).drop i := fun ρ => by rw [← hgoal]; exact encEnt_rens ρ _
    have hyR : ∀ ok : Nat → Prop, Refs ok (encEnt x) := fun ok => of_eq_true (encEnt_refs1 ok x)
    have hyr : ∀ ρ : Nat → Nat, rens ρ (encEnt x) = encEnt x := fun ρ => encEnt_rens1 ρ x
    rw [hgoal]
    generalize List.map encEnt xs = L at *
    have hx3 : (encEnt x).length = 3 := rfl
    have hx1 : ∀ (m : List Ob) (z : V), z ∈ encEnt x → oneV m z = true := fun m z hz => by
      simp only [encEnt, List.mem_cons, List.not_mem_nil, or_false] at hz
      rcases hz with rfl | rfl | rfl <;> rfl
    generalize encEnt x = y at *
    refine SW.seq (SW.seq (CW.sound ?_))
    simp (maxSteps := 4000000) only [method_specs_simp, seval, e1, e2, e3, e4, e5, junks_length, Nat.sub_zero]
    refine SW.cond (b := decide ((xs.length : Int) + 1 > c)) rfl (fun h => ?_) (fun h => ?_)
    · simp only [decide_eq_true_eq] at h
      have hcn : c = xs.length := by omega
      subst hcn
      have ej : junks (xs.length - xs.length) 3 = [] := by simp [junks]
      simp only [ej, List.append_nil]
      refine SW.seq (CW.sound ?_)
      simp (maxSteps := 4000000) only [method_specs_simp, seval, e1, e2, e3, e4, e5, junks_length, Nat.sub_zero]
      refine ⟨by omega, by omega, by omega, by omega, by omega, by omega, by omega, ?_⟩
      have t1 : ((i : Int) + ((xs.length + 1 - i : Nat) : Int)).toNat = xs.length + 1 := by omega
      have m1 : Nat.min 1 (xs.length + 1 - i) = 1 := by show min 1 _ = 1; omega
      have m2 : Nat.min (xs.length - i) (xs.length + 1 - (i + 1)) = xs.length - i := by show min _ _ = _; omega
      have hd : List.take (xs.length - i) (List.drop i L) = List.drop i L := List.take_of_length_le (by rw [List.length_drop]; omega)
      have hdl : (List.drop i L).length = xs.length - i := by rw [List.length_drop]; omega
      have m3 : Nat.min (xs.length - i) (xs.length - i) = xs.length - i := Nat.min_self _
      have hdt : List.take (xs.length - i) (List.drop i L) = List.drop i L := hd
      refine SW.seq (CW.sound ?_)
      simp (maxSteps := 4000000) only [method_specs_simp, seval, e1, e2, e3, e4, e5, junks_length, Nat.sub_zero, t1, m1]
      refine ⟨by omega, by omega, by omega, hx3, hx1 _, ?_⟩
      rw [ins_a L y _ xs.length i hin hLn]
      refine SW.seq (CW.sound ?_)
      simp (maxSteps := 4000000) only [method_specs_simp, seval, e1, e2, e3, e4, e5, junks_length, Nat.sub_zero, t1, m2, m3, hd, hdl]
      refine ⟨by kernel_rfl, by omega, by omega, by omega, by omega, by omega, by omega, by omega, ?_⟩
      refine ⟨fun z hz => hL3 z (List.mem_of_mem_drop hz), fun z hz => ?_, ?_⟩
      · obtain ⟨l, hl, hz⟩ := List.mem_flatten.1 hz
        exact hL1 _ z (List.mem_flatten.2 ⟨l, List.mem_of_mem_drop hl, hz⟩)
      rw [ins_b L y _ xs.length i hin hLn, show i + (xs.length + 1 - i) = xs.length + 1 by omega]
      refine SW.kill 0 3 L rfl ?_
      refine CW.sound ?_
      simp (maxSteps := 4000000) only [method_specs_simp, seval]
      refine LResY.mk [0, 1, 2] ?_
      simp only [mvcgen_simp, method_specs_simp, seval]
      exact ⟨⟨hyR _, hgR _⟩, ⟨(hyr _).symm, (hgr _).symm⟩, hLn⟩
    · simp only [decide_eq_false_iff_not] at h
      refine SW.skip ?_
      show SW P _ _ _
      refine SW.seq (CW.sound ?_)
      simp (maxSteps := 4000000) only [method_specs_simp, seval, e1, e2, e3, e4, e5, junks_length, Nat.sub_zero]
      refine ⟨by omega, by omega, by omega, ?_⟩
      refine SW.seq (SW.seq (CW.sound ?_))
      simp (maxSteps := 4000000) only [method_specs_simp, seval, e1, e2, e3, e4, e5, junks_length, Nat.sub_zero]
      refine ⟨by omega, by omega, by omega, by omega, ?_⟩
      refine clY.ov (ov169 (q := 1) (q' := 0) (.inl rfl) (.inr ⟨_, rfl⟩) (by omega) (by omega) (by decide) rfl rfl) ?_
      simp (maxSteps := 4000000) only [method_specs_simp, seval, e1, e2, e3, e4, e5, junks_length, Nat.sub_zero]
      refine SW.cond (b := true) rfl (fun _ => ?_) (fun h => by cases h)
      refine SW.seq (CW.sound ?_)
      simp (maxSteps := 4000000) only [method_specs_simp, seval, e1, e2, e3, e4, e5, junks_length, Nat.sub_zero]
      have f1 : (List.take (xs.length + 1 - i) (List.drop i (L ++ junks (c - xs.length) 3))).length = xs.length + 1 - i := by rw [List.length_take, List.length_drop, List.length_append, junks_length]; omega
      have f2 : Nat.min (xs.length + 1 - i) (xs.length - i) = xs.length - i := by show min _ _ = _; omega
      have f3 : List.take (xs.length - i) (List.take (xs.length + 1 - i) (List.drop i (L ++ junks (c - xs.length) 3))) = List.drop i L := by
        rw [List.take_take, Nat.min_eq_left (by omega), List.drop_append_of_le_length (by omega), List.take_append_of_le_length (by rw [List.length_drop]; omega), List.take_of_length_le (by rw [List.length_drop]; omega)]
      have m1 : Nat.min 1 (xs.length + 1 - i) = 1 := by show min 1 _ = 1; omega
      have f4 : (L ++ junks (c - xs.length) 3).length = c := by rw [List.length_append, junks_length]; omega
      simp only [f1, f2, f3]
      refine ⟨by kernel_rfl, by omega, by omega, by omega, by omega, by omega, by omega, by omega, by omega, fun z hz => hL3 z (List.mem_of_mem_drop hz), fun z hz => ?_, ?_⟩
      · obtain ⟨l, hl, hz⟩ := List.mem_flatten.1 hz
        exact hL1 _ z (List.mem_flatten.2 ⟨l, List.mem_of_mem_drop hl, hz⟩)
      refine SW.seq (CW.sound ?_)
      simp (maxSteps := 4000000) only [method_specs_simp, seval, e1, e2, e3, e4, e5, junks_length, Nat.sub_zero, m1]
      have g1 : (List.take (i + 1) (L ++ junks (c - xs.length) 3)).length = i + 1 := by rw [List.length_take, f4]; omega
      have g2 : (List.drop i L).length = xs.length - i := by rw [List.length_drop]; omega
      have g3 : (List.drop (i + 1 + (xs.length - i)) (L ++ junks (c - xs.length) 3)).length = c - (xs.length + 1) := by rw [List.length_drop, f4]; omega
      refine ⟨by omega, by omega, by omega, by rw [g1, g2, g3]; omega, hx3, hx1 _, ?_⟩
      refine SW.renew 0 (xs.length + 1) rfl rfl (by omega) (by simp only [List.length_append, List.length_singleton, List.length_take, List.length_drop, f4]; omega) ?_
      rw [ins_c L _ y xs.length i hin hLn]
      refine CW.sound ?_
      simp (maxSteps := 4000000) only [method_specs_simp, seval]
      refine LResY.mk [0, 1, 2] ?_
      simp only [mvcgen_simp, method_specs_simp, seval]
      exact ⟨⟨hyR _, hgR _⟩, ⟨(hyr _).symm, (hgr _).symm⟩, hLn⟩
theorem n157 (xs : List Ent) (i : Nat) (hi : i < xs.length) (hx : xs.length < 2 ^ 43) : LCon P 223 [.ar 0 0 xs.length, .int .i64 i, .int .i64 (i + 1 : Nat)] [.arr true 3 (xs.map encEnt)] (.ar 1 0 (xs.length - 1))
    [.dead, .arr true 3 ((xs.take i ++ xs.drop (i + 1)).map encEnt)] := by
  refine LCon.ofS (n := 33) (rs := [.tmp 6]) (Is.fn Try.func223) rfl (Is.call Try.call223) Try.results223 Try.ntmps223 ?_
  refine SW.reveal 0 0 xs.length 3 (xs.map encEnt) rfl rfl (fun c hc hc2 => ?_)
  simp (maxSteps := 4000000) only [method_specs_simp, seval] at hc ⊢
  have hL3 : ∀ z ∈ List.map encEnt xs, z.length = 3 := fun z hz => by obtain ⟨a, _, rfl⟩ := List.mem_map.1 hz; rfl
  have hL1 : ∀ (m : List Ob) (z : V), z ∈ (List.map encEnt xs).flatten → oneV m z = true := fun m => of_eq_true (encEnt_one m xs)
  have hLn : (List.map encEnt xs).length = xs.length := List.length_map _
  have hgoal : List.map encEnt (xs.take i ++ xs.drop (i + 1)) = (List.map encEnt xs).take i ++ (List.map encEnt xs).drop (i + 1) := by rw [List.map_append, List.map_take, List.map_drop]
  have hgR : ∀ ok : Nat → Prop, Refss ok ((List.map encEnt xs).take i ++ (List.map encEnt xs).drop (i + 1)) := fun ok => by rw [← hgoal]; exact of_eq_true (encEnt_refs ok _)
  have hgr : ∀ ρ : Nat → Nat, renss ρ ((List.map encEnt xs).take i ++ (List.map encEnt xs).drop (i + 1)) = (List.map encEnt xs).take i ++ (List.map encEnt xs).drop (i + 1) := fun ρ => by rw [← hgoal]; exact encEnt_rens ρ _
  rw [hgoal]
  generalize List.map encEnt xs = L at *
  have hne : ((i : Int) == (i : Int) + 1) = false := by simp; omega
  have e4 : ((i : Int) + 1).toNat = i + 1 := by omega
  refine SW.seq (CW.sound ?_)
  simp (maxSteps := 4000000) only [method_specs_simp, seval, junks_length, Nat.sub_zero]
  refine SW.seq (CW.sound ?_)
  simp (maxSteps := 4000000) only [method_specs_simp, seval, junks_length, Nat.sub_zero]
  refine ⟨by omega, by omega, by omega, by omega, ?_⟩
  refine SW.seq (CW.sound ?_)
  simp (maxSteps := 4000000) only [method_specs_simp, seval, junks_length, Nat.sub_zero, hne]
  refine SW.seq (CW.sound ?_)
  simp (maxSteps := 4000000) only [method_specs_simp, seval, junks_length, Nat.sub_zero]
  refine SW.seq (CW.sound ?_)
  simp (maxSteps := 4000000) only [method_specs_simp, seval, junks_length, Nat.sub_zero, e4]
  have f4 : (L ++ junks (c - xs.length) 3).length = c := by rw [List.length_append, junks_length]; omega
  have f1 : List.take (xs.length - (i + 1)) (List.drop (i + 1) (L ++ junks (c - xs.length) 3)) = List.drop (i + 1) L := by
    rw [List.drop_append_of_le_length (by omega), List.take_append_of_le_length (by rw [List.length_drop]; omega), List.take_of_length_le (by rw [List.length_drop]; omega)]
  have f2 : (List.drop (i + 1) L).length = xs.length - (i + 1) := by rw [List.length_drop]; omega
  have f3 : (List.take i (L ++ junks (c - xs.length) 3)).length = i := by rw [List.length_take, f4]; omega
  have f5 : ∀ k, (List.drop k (L ++ junks (c - xs.length) 3)).length = c - k := fun k => by rw [List.length_drop, f4]
  have f6 : List.take i (L ++ junks (c - xs.length) 3) = List.take i L := List.take_append_of_le_length (by omega)
  have k1 : i + (xs.length - (i + 1)) = xs.length - 1 := by omega
  have k2 : ((xs.length - 1 : Nat) : Int) = (xs.length : Int) - 1 := by omega
  simp only [f1, f2, k1]
  refine ⟨by kernel_rfl, by omega, by omega, by omega, by omega, by omega, by omega, by omega, fun z hz => hL3 z (List.mem_of_mem_drop hz), fun z hz => ?_, by omega, by omega, ?_⟩
  · obtain ⟨l, hl, hz⟩ := List.mem_flatten.1 hz
    exact hL1 _ z (List.mem_flatten.2 ⟨l, List.mem_of_mem_drop hl, hz⟩)
  refine SW.seq (CW.sound ?_)
  simp (maxSteps := 4000000) only [method_specs_simp, seval, junks_length, Nat.sub_zero, e4, k1]
  refine ⟨by omega, by omega, by omega, by rw [f3, f2, f5]; omega, ?_⟩
  refine SW.renew 0 (xs.length - 1) rfl rfl (by omega) (by simp only [List.length_append, List.length_take, List.length_replicate, List.length_drop, f4]; omega) ?_
  rw [List.append_assoc (List.take (xs.length - 1) _), del_a L _ _ _ xs.length i hi hLn f6]
  refine CW.sound ?_
  simp (maxSteps := 4000000) only [method_specs_simp, seval]
  refine LResY.mk [0, 1] ?_
  simp only [mvcgen_simp, method_specs_simp, seval]
  exact ⟨hgR _, (hgr _).symm, hLn⟩
end
end Go.Proofs.Ytkcllejnmpnjfaa
