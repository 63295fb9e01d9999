/- Where an event is in a row; what an event stands behind. No conditions but lengths and order. -/
import Derived.Test.YtkcllejnmpnjfaaG2
import Derived.Test.YtkcllejnmpnjfaaS3
namespace Go.Proofs.Ytkcllejnmpnjfaa
open Go.Pm
open Go.Gm (Ev Gr)
set_option maxRecDepth 10000
set_option linter.unusedSimpArgs false
set_option linter.unusedVariables false
theorem cmpI_lt (a b : Int) : decide (cmpI a b < 0) = decide (a < b) := by
  unfold cmpI
  by_cases h : a < b
  · simp [h]
  · by_cases h2 : a > b
    · simp [h, h2]
    · simp [h, h2]
theorem cmpI_eq (a b : Int) : (cmpI a b == 0) = (a == b) := by
  unfold cmpI
  by_cases h : a < b
  · have : a ≠ b := by omega
    simp [h, this]
  · by_cases h2 : a > b
    · have : a ≠ b := by omega
      simp [h, h2, this]
    · have : a = b := by omega
      simp [h, h2, this]
section
variable {P : Program} [Is P]
theorem c_find1 (e : Ev) (id : Int) : Con P 231 [.agg (encEv e), .int .i64 id] (.int .i64 (cmpI e.id id)) := by
  refine Con.of (n := 9) (rs := [.tmp 4]) (Is.fn Try.func231) rfl (Is.call Try.call231) Try.results231 Try.ntmps231 trivial ?_
  simp (maxSteps := 4000000) only [method_specs_simp, seval, encEv]
  refine clY.con (c172 e.id id) (by simp only [method_specs_simp, encEv]) ?_
  simp (maxSteps := 4000000) only [method_specs_simp, seval, encEv]
theorem c_bs (xs : List Ev) (id : Int) (hx : xs.length * 96 ≤ 2 ^ 47) (hs : Gm.Srt xs) : Con P 230 [.sl 9 (xs.map encEv), .int .i64 id, .fn 231 [] []] (.tup [.int .i64 (Gm.posE xs id), .bool (Gm.hasId xs id)]) := by
  rw [← Gm.bsE hs id, ← Gm.isAtE_has hs id, ← Gm.bsE hs id]
  refine Con.of (n := 49) (rs := [.tmp 6, .tmp 7]) (Is.fn Try.func230) rfl (Is.call Try.call230) Try.results230 Try.ntmps230 (by simp only [method_specs_simp]) ?_
  simp (maxSteps := 4000000) only [method_specs_simp, seval]
  refine SW.while (A := Nat × Nat) (fun a => ⟨pad 49 [.sl 9 (xs.map encEv), .int .i64 id, .fn 231 [] [], .junk, .junk, .junk, .int .i64 0, .bool false, .int .i64 xs.length, .int .i64 a.1, .int .i64 a.2], [], []⟩)
    (fun a => a.2 - a.1) (fun a => a.1 ≤ a.2 ∧ a.2 ≤ xs.length ∧ Gm.bsP (fun e : Ev => decide (e.id < id)) xs 0 xs.length = Gm.bsP (fun e : Ev => decide (e.id < id)) xs a.1 a.2) (0, xs.length) [] ⟨Nat.zero_le _, Nat.le_refl _, rfl⟩ ?_ ?_
  · simp only [mvcgen_simp, method_specs_simp, seval]
  · rintro ⟨i, j⟩ ⟨hij, hj, hr⟩
    simp only at hij hj hr
    rw [hr]
    refine CW.sound ?_
    have e1 : IntKind.i64.wrap ((i : Int) + j) = (i : Int) + j := wrap_id (by omega) (by omega)
    have e2 : IntKind.u64.wrap ((i : Int) + j) = (i : Int) + j := by simp [IntKind.wrap, IntKind.bits, IntKind.signed]; omega
    have e3 : ((i : Int) + j).fdiv (2 ^ min 1 IntKind.u64.bits) = (((i + j) / 2 : Nat) : Int) := by
      simp only [IntKind.bits]
      rw [Int.fdiv_eq_ediv_of_nonneg _ (by decide)]
      show ((i : Int) + j) / 2 = _
      omega
    have e4 : IntKind.i64.wrap (((i + j) / 2 : Nat) : Int) = (((i + j) / 2 : Nat) : Int) := wrap_id (by omega) (by omega)
    simp (maxSteps := 4000000) only [method_specs_simp, seval, e1, e2, e3, e4]
    refine gB_split (fun h => ?_) (fun h => ?_)
    · simp only [decide_eq_true_eq, Int.ofNat_lt] at h
      have hh : (i + j) / 2 < xs.length := by omega
      obtain ⟨y, hy⟩ : ∃ y, xs[(i + j) / 2]? = some y := ⟨_, List.getElem?_eq_getElem hh⟩
      simp (maxSteps := 4000000) only [method_specs_simp, seval, hy]
      refine ⟨by omega, by omega, by simp [encEv], ?_⟩
      rw [show List.take 9 (encEv y) = encEv y from rfl]
      refine clY.con (c_find1 y id) (by simp only [method_specs_simp]) ?_
      simp (maxSteps := 4000000) only [method_specs_simp, seval]
      have e5 : IntKind.i64.wrap ((((i + j) / 2 : Nat) : Int) + 1) = (((i + j) / 2 + 1 : Nat) : Int) := by rw [wrap_id (by omega) (by omega)]; omega
      have hb : Gm.bsP (fun e : Ev => decide (e.id < id)) xs i j = if decide (y.id < id) then Gm.bsP (fun e : Ev => decide (e.id < id)) xs ((i + j) / 2 + 1) j else Gm.bsP (fun e : Ev => decide (e.id < id)) xs i ((i + j) / 2) := by
        rw [Gm.bsP, dif_pos h, hy]
      rw [cmpI_lt]
      refine gB_split (fun h2 => ?_) (fun h2 => ?_)
      · rw [if_pos h2] at hb
        rw [e5]
        refine Again.mk ((i + j) / 2 + 1, j) [] ⟨by simp only; omega, hj, hb⟩ (by simp only; omega) ?_
        simp only [mvcgen_simp, method_specs_simp, seval]
      · rw [if_neg (by simpa using h2)] at hb
        refine Again.mk (i, (i + j) / 2) [] ⟨by simp only; omega, by simp only; omega, hb⟩ (by simp only; omega) ?_
        simp only [mvcgen_simp, method_specs_simp, seval]
    · simp only [decide_eq_false_iff_not, Bool.not_true, Int.ofNat_lt] at h
      have hb : Gm.bsP (fun e : Ev => decide (e.id < id)) xs i j = i := by rw [Gm.bsP, dif_neg h]
      rw [hb]
      refine gB_split (fun h2 => ?_) (fun h2 => ?_)
      · simp only [decide_eq_true_eq, Int.ofNat_lt] at h2
        obtain ⟨y, hy⟩ : ∃ y, xs[i]? = some y := ⟨_, List.getElem?_eq_getElem h2⟩
        simp (maxSteps := 4000000) only [method_specs_simp, seval, hy]
        refine ⟨by omega, by omega, by simp [encEv], ?_⟩
        rw [show List.take 9 (encEv y) = encEv y from rfl]
        refine clY.con (c_find1 y id) (by simp only [method_specs_simp]) ?_
        simp (maxSteps := 4000000) only [method_specs_simp, seval]
        rw [cmpI_eq]
        simp [Gm.isAtE, hy]
      · simp only [decide_eq_false_iff_not, Bool.not_true, Int.ofNat_lt] at h2
        have hy : xs[i]? = none := List.getElem?_eq_none (by omega)
        simp [Gm.isAtE, hy]
theorem c_find (xs : List Ev) (id : Int) (hx : xs.length * 96 ≤ 2 ^ 47) (hs : Gm.Srt xs) : Con P 173 [.sl 9 (xs.map encEv), .int .i64 id] (.tup [.int .i64 (Gm.posE xs id), .bool (Gm.hasId xs id)]) := by
  refine Con.of (n := 11) (rs := [.tmp 4, .tmp 5]) (Is.fn Try.func173) rfl (Is.call Try.call173) Try.results173 Try.ntmps173 (by simp only [method_specs_simp]) ?_
  simp (maxSteps := 4000000) only [method_specs_simp, seval]
  refine clY.con (c_bs xs id hx hs) (by simp only [method_specs_simp]) ?_
  simp (maxSteps := 4000000) only [method_specs_simp, seval]
theorem c_has (g : Gr) (id : Int) (hx : g.events.length * 96 ≤ 2 ^ 47) (hs : Gm.Srt g.events) : Con P 174 [.agg (encGr g), .int .i64 id] (.bool (Gm.hasId g.events id)) := by
  refine Con.of (n := 15) (rs := [.tmp 4]) (Is.fn Try.func174) rfl (Is.call Try.call174) Try.results174 Try.ntmps174 trivial ?_
  simp (maxSteps := 4000000) only [method_specs_simp, seval, encGr]
  refine clY.con (c_find g.events id hx hs) (by simp only [method_specs_simp, encGr]) ?_
  simp (maxSteps := 4000000) only [method_specs_simp, seval, encGr]
theorem c_complete1 (g : Gr) (id : Int) (hx : g.events.length * 96 ≤ 2 ^ 47) (hs : Gm.Srt g.events) : Con P 238 [.int .i64 id, .fptr (encGr g) 0] (.bool (!Gm.hasId g.events id)) := by
  refine Con.of (n := 8) (rs := [.tmp 3]) (Is.fn Try.func238) rfl (Is.call Try.call238) Try.results238 Try.ntmps238 trivial ?_
  simp (maxSteps := 4000000) only [method_specs_simp, seval]
  refine ⟨by simp [encGr], ?_⟩
  rw [show List.take 3 (encGr g) = encGr g from rfl]
  refine clY.con (c_has g id hx hs) (by simp only [method_specs_simp]) ?_
  simp (maxSteps := 4000000) only [method_specs_simp, seval]
def idxP {α : Type} (p : α → Bool) (xs : List α) : Int := if xs.any p then ((xs.findIdx p : Nat) : Int) else -1
theorem idxP_ge {α : Type} (p : α → Bool) (xs : List α) : decide (idxP p xs ≥ 0) = xs.any p := by
  unfold idxP
  cases h : xs.any p with
  | true => simp
  | false => simp
theorem idxP_hit {α : Type} {p : α → Bool} {x : α} {xs : List α} (h : p x = true) (k : Int) : (if (x :: xs).any p then k + (((x :: xs).findIdx p : Nat) : Int) else -1) = k := by
  simp [h, List.findIdx_cons]
theorem idxP_miss {α : Type} {p : α → Bool} {x : α} {xs : List α} (h : p x = false) (k : Nat) : (if (x :: xs).any p then (k : Int) + (((x :: xs).findIdx p : Nat) : Int) else -1) = (if xs.any p then ((k + 1 : Nat) : Int) + ((xs.findIdx p : Nat) : Int) else -1) := by
  simp only [List.any_cons, h, Bool.false_or, List.findIdx_cons, cond_false]
  split
  · simp; omega
  · rfl
theorem c_indexFI (xs : List Int) (f : FuncId) (caps : List V) (p : Int → Bool) (hc : Refs (fun _ => False) caps) (hf : ∀ x ∈ xs, Con P f ([.int .i64 x] ++ caps) (.bool (p x))) (hx : xs.length < 2 ^ 62) : Con P 256 [.sl 1 (xs.map encI), .fn f [] caps] (.int .i64 (idxP p xs)) := by
  refine Con.of (n := 19) (rs := [.tmp 4]) (Is.fn Try.func256) rfl (Is.call Try.call256) Try.results256 Try.ntmps256 trivial ?_
  simp (maxSteps := 4000000) only [method_specs_simp, seval]
  refine SW.while (A := Nat) (fun k => ⟨pad 19 [.sl 1 (xs.map encI), .fn f [] caps, .junk, .junk, .int .i64 0, .junk, .sl 1 (xs.map encI), .int .i64 xs.length, .int .i64 k], [], []⟩) (fun k => xs.length - k)
    (fun k => k ≤ xs.length ∧ idxP p xs = if (xs.drop k).any p then (k : Int) + (((xs.drop k).findIdx p : Nat) : Int) else -1) 0 [] ⟨Nat.zero_le _, by simp [idxP]⟩ ?_ ?_
  · simp only [mvcgen_simp, method_specs_simp, seval, rens_pure _ hc]
    exact Refs.mono (fun _ h => h.elim) _ hc
  · rintro k ⟨hk, hr⟩
    rw [hr]
    refine CW.sound ?_
    simp (maxSteps := 4000000) only [method_specs_simp, seval]
    refine gB_split (fun h => ?_) (fun h => ?_)
    · simp only [decide_eq_true_eq, Int.ofNat_lt] at h
      have hxk : xs[k]? = some xs[k] := List.getElem?_eq_getElem h
      have hfk := hf _ (List.getElem_mem h)
      generalize xs[k] = x at hxk hfk
      rw [drop_cons hxk]
      simp (maxSteps := 4000000) only [List.getElem?_map, hxk, encI, method_specs_simp, seval]
      refine ⟨by omega, by omega, ?_⟩
      refine clY.conC hfk rfl ⟨trivial, hc⟩ ?_
      simp (maxSteps := 4000000) only [method_specs_simp, seval]
      refine gB_split (fun h1 => ?_) (fun h1 => ?_)
      · rw [idxP_hit h1]
      · rw [wrap_id (by omega) (by omega), idxP_miss h1]
        refine Again.mk (k + 1) [] ⟨h, rfl⟩ (Nat.sub_lt_sub_left h (Nat.lt_succ_self _)) ?_
        simp only [mvcgen_simp, method_specs_simp, seval, rens_pure _ hc]
        exact Refs.mono (fun _ h => h.elim) _ hc
    · simp only [decide_eq_false_iff_not, Bool.not_true, Int.ofNat_lt] at h
      rw [List.drop_eq_nil_of_le (by omega)]
      simp
theorem c_containsFI (xs : List Int) (f : FuncId) (caps : List V) (p : Int → Bool) (hc : Refs (fun _ => False) caps) (hf : ∀ x ∈ xs, Con P f ([.int .i64 x] ++ caps) (.bool (p x))) (hx : xs.length < 2 ^ 62) : Con P 237 [.sl 1 (xs.map encI), .fn f [] caps] (.bool (xs.any p)) := by
  refine Con.of (n := 9) (rs := [.tmp 4]) (Is.fn Try.func237) rfl (Is.call Try.call237) Try.results237 Try.ntmps237 trivial ?_
  simp (maxSteps := 4000000) only [method_specs_simp, seval]
  refine clY.con (c_indexFI xs f caps p hc hf hx) ⟨of_eq_true (encI_refs _ xs), ⟨trivial, hc⟩, trivial⟩ ?_
  simp (maxSteps := 4000000) only [method_specs_simp, seval]
  exact idxP_ge p xs
theorem c_complete (g : Gr) (e : Ev) (he : EvOK e) (hx : g.events.length * 96 ≤ 2 ^ 47) (hs : Gm.Srt g.events) : Con P 196 [.agg (encGr g), .agg (encEv e)] (.bool (Gm.allIn g.events e)) := by
  refine Con.of (n := 10) (rs := [.tmp 4]) (Is.fn Try.func196) rfl (Is.call Try.call196) Try.results196 Try.ntmps196 trivial ?_
  simp (maxSteps := 4000000) only [method_specs_simp, seval, encEv]
  refine clY.conF (c_containsFI e.prev _ [.fptr (encGr g) 0] (fun id => !Gm.hasId g.events id) ⟨encGr_ref1 _ g, trivial⟩ (fun x _ => c_complete1 g x hx hs) (by have := he.2; omega)) (by simp only [method_specs_simp, encEv]) (by simp only [method_specs_simp, encEv]) trivial ?_
  simp (maxSteps := 4000000) only [method_specs_simp, seval, encEv]
  unfold Gm.allIn
  rw [List.all_eq_not_any_not]
theorem c_indexFE (xs : List Ev) (f : FuncId) (caps : List V) (p : Ev → Bool) (hc : Refs (fun _ => False) caps) (hf : ∀ x ∈ xs, Con P f ([.agg (encEv x)] ++ caps) (.bool (p x))) (hx : xs.length < 2 ^ 62) : Con P 217 [.sl 9 (xs.map encEv), .fn f [] caps] (.int .i64 (idxP p xs)) := by
  refine Con.of (n := 19) (rs := [.tmp 4]) (Is.fn Try.func217) rfl (Is.call Try.call217) Try.results217 Try.ntmps217 trivial ?_
  simp (maxSteps := 4000000) only [method_specs_simp, seval]
  refine SW.while (A := Nat) (fun k => ⟨pad 19 [.sl 9 (xs.map encEv), .fn f [] caps, .junk, .junk, .int .i64 0, .junk, .sl 9 (xs.map encEv), .int .i64 xs.length, .int .i64 k], [], []⟩) (fun k => xs.length - k)
    (fun k => k ≤ xs.length ∧ idxP p xs = if (xs.drop k).any p then (k : Int) + (((xs.drop k).findIdx p : Nat) : Int) else -1) 0 [] ⟨Nat.zero_le _, by simp [idxP]⟩ ?_ ?_
  · simp only [mvcgen_simp, method_specs_simp, seval, rens_pure _ hc]
    exact Refs.mono (fun _ h => h.elim) _ hc
  · rintro k ⟨hk, hr⟩
    rw [hr]
    refine CW.sound ?_
    simp (maxSteps := 4000000) only [method_specs_simp, seval]
    refine gB_split (fun h => ?_) (fun h => ?_)
    · simp only [decide_eq_true_eq, Int.ofNat_lt] at h
      have hxk : xs[k]? = some xs[k] := List.getElem?_eq_getElem h
      have hfk := hf _ (List.getElem_mem h)
      generalize xs[k] = x at hxk hfk
      rw [drop_cons hxk]
      simp (maxSteps := 4000000) only [List.getElem?_map, hxk, method_specs_simp, seval]
      refine ⟨by omega, by omega, by simp [encEv], ?_⟩
      rw [show List.take 9 (encEv x) = encEv x from rfl]
      refine clY.conC hfk rfl ⟨encEv_ref1 _ x, hc⟩ ?_
      simp (maxSteps := 4000000) only [method_specs_simp, seval]
      refine gB_split (fun h1 => ?_) (fun h1 => ?_)
      · rw [idxP_hit h1]
      · rw [wrap_id (by omega) (by omega), idxP_miss h1]
        refine Again.mk (k + 1) [] ⟨h, rfl⟩ (Nat.sub_lt_sub_left h (Nat.lt_succ_self _)) ?_
        simp only [mvcgen_simp, method_specs_simp, seval, rens_pure _ hc]
        exact Refs.mono (fun _ h => h.elim) _ hc
    · simp only [decide_eq_false_iff_not, Bool.not_true, Int.ofNat_lt] at h
      rw [List.drop_eq_nil_of_le (by omega)]
      simp
theorem c_containsFE (xs : List Ev) (f : FuncId) (caps : List V) (p : Ev → Bool) (hc : Refs (fun _ => False) caps) (hf : ∀ x ∈ xs, Con P f ([.agg (encEv x)] ++ caps) (.bool (p x))) (hx : xs.length < 2 ^ 62) : Con P 194 [.sl 9 (xs.map encEv), .fn f [] caps] (.bool (xs.any p)) := by
  refine Con.of (n := 9) (rs := [.tmp 4]) (Is.fn Try.func194) rfl (Is.call Try.call194) Try.results194 Try.ntmps194 trivial ?_
  simp (maxSteps := 4000000) only [method_specs_simp, seval]
  refine clY.con (c_indexFE xs f caps p hc hf hx) ⟨of_eq_true (encEv_refs _ xs), ⟨trivial, hc⟩, trivial⟩ ?_
  simp (maxSteps := 4000000) only [method_specs_simp, seval]
  exact idxP_ge p xs
theorem pvId_eq (xs : List Ev) (k : Nat) : (pv xs k).map (·.id) = match k with | 0 => none | k + 1 => (xs[k]?).map (·.id) := by cases k <;> rfl
theorem c_areRight (g : Gr) (xs : List Ev) (hx : EvsOK xs) : Con P 193 [.agg (encGr g), .sl 9 (xs.map encEv)] (.bool (Gm.rowFrom g.room none xs)) := by
  have hx1 := hx.1
  refine Con.of (n := 40) (rs := [.tmp 4]) (Is.fn Try.func193) rfl (Is.call Try.call193) Try.results193 Try.ntmps193 trivial ?_
  simp (maxSteps := 4000000) only [method_specs_simp, seval, encGr]
  refine SW.while (A := Nat) (fun k => ⟨pad 40 [.agg (encGr g), .sl 9 (xs.map encEv), .ptr 0 0, .junk, .bool false, .junk, .junk, .sl 9 (xs.map encEv), .int .i64 xs.length, .int .i64 k], [.box true (encGr g)], []⟩) (fun k => xs.length - k)
    (fun k => k ≤ xs.length ∧ Gm.rowFrom g.room none xs = Gm.rowFrom g.room ((pv xs k).map (·.id)) (xs.drop k)) 0 [0] ⟨Nat.zero_le _, rfl⟩ ?_ ?_
  · simp only [mvcgen_simp, method_specs_simp, seval, encGr]
  · rintro k ⟨hk, hr⟩
    rw [hr]
    refine CW.sound ?_
    simp (maxSteps := 4000000) only [method_specs_simp, seval, encGr]
    refine gB_split (fun h => ?_) (fun h => ?_)
    · simp only [decide_eq_true_eq, Int.ofNat_lt] at h
      have hxk : xs[k]? = some xs[k] := List.getElem?_eq_getElem h
      have hOK := hx.2 _ (List.getElem_mem h)
      generalize xs[k] = x at hxk hOK
      rw [drop_cons hxk, Gm.rowFrom]
      simp (maxSteps := 4000000) only [List.getElem?_map, hxk, encEv, encGr, method_specs_simp, seval]
      refine ⟨by omega, by omega, by kernel_rfl, ?_⟩
      refine clY.con (c_EventRight x hOK) (by simp only [method_specs_simp, encGr]) ?_
      simp (maxSteps := 4000000) only [method_specs_simp, seval, encGr, encEv]
      cases g1 : Gm.evRight x
      · simp (maxSteps := 4000000) only [method_specs_simp, seval, encGr]
        simp
      · have e2 : (x.room != g.room) = !(x.room == g.room) := rfl
        simp (maxSteps := 4000000) only [method_specs_simp, seval, encGr, e2]
        cases g2 : (x.room == g.room)
        · simp (maxSteps := 4000000) only [method_specs_simp, seval, encGr]
          simp
        · simp (maxSteps := 4000000) only [method_specs_simp, seval, encGr]
          refine gB_split (fun h2 => ?_) (fun h2 => ?_)
          · simp at h2
            obtain ⟨j, rfl⟩ : ∃ j, k = j + 1 := ⟨k - 1, by omega⟩
            obtain ⟨y, hyk⟩ : ∃ y, xs[j]? = some y := ⟨_, List.getElem?_eq_getElem (by omega)⟩
            have e4 : IntKind.i64.wrap (((j + 1 : Nat) : Int) - 1) = (j : Int) := by rw [wrap_id (by omega) (by omega)]; omega
            have ep : pv xs (j + 1) = some y := hyk
            have e7 : pv xs (j + 1 + 1) = some x := hxk
            rw [e4, ep]
            refine ⟨by omega, by omega, ?_⟩
            simp (maxSteps := 4000000) only [method_specs_simp, seval, encGr, hyk, encEv]
            refine gB_split (fun h3 => ?_) (fun h3 => ?_)
            · simp at h3
              simp [Gm.notLess, h3]
            · simp at h3
              have e9 : decide (y.id ≥ x.id) = false := by simp; exact h3
              rw [wrap_id (by omega) (by omega)]
              refine Again.mk (j + 1 + 1) [0] ⟨h, ?_⟩ (Nat.sub_lt_sub_left h (Nat.lt_succ_self _)) ?_
              · rw [e7]
                simp only [Option.map_some, Gm.notLess, e9, Bool.true_and, Bool.not_false]
              · simp only [mvcgen_simp, method_specs_simp, seval, encGr, encGr]
          · simp at h2
            have hk0 : k = 0 := by omega
            subst hk0
            rw [wrap_id (by omega) (by omega)]
            refine Again.mk 1 [0] ⟨h, ?_⟩ (Nat.sub_lt_sub_left h (Nat.lt_succ_self _)) ?_
            · have e7 : pv xs 1 = some x := hxk
              rw [e7]
              simp [Gm.notLess, pv]
            · simp only [mvcgen_simp, method_specs_simp, seval, encGr, encGr]
    · simp only [decide_eq_false_iff_not, Bool.not_true, Int.ofNat_lt] at h
      rw [List.drop_eq_nil_of_le (by omega), Gm.rowFrom]
end
end Go.Proofs.Ytkcllejnmpnjfaa
