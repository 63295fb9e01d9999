/- The order of a graph's events: by depth, then by place. Conditions: lengths that fit a machine. -/
import Derived.Test.YtkcllejnmpnjfaaH6
import Derived.Test.YtkcllejnmpnjfaaG5
import Derived.Test.YtkcllejnmpnjfaaG6
import Derived.Test.YtkcllejnmpnjfaaG7
namespace Go.Proofs.Ytkcllejnmpnjfaa
open Go.Pm
open Go.Gm (Ev Gr LtD ltD StD srtD)
set_option maxRecDepth 10000
set_option linter.unusedSimpArgs false
set_option linter.unusedVariables false
set_option maxHeartbeats 4000000
def rangeI (k : Nat) : List Int := (List.range k).map fun i : Nat => (i : Int)
theorem rangeI_len (k : Nat) : (rangeI k).length = k := by simp [rangeI]
theorem rangeI_succ (k : Nat) : rangeI (k + 1) = rangeI k ++ [(k : Int)] := by simp [rangeI, List.range_succ]
theorem rangeI_mem {k : Nat} {x : Int} : x ∈ rangeI k ↔ ∃ i : Nat, i < k ∧ x = (i : Int) := by
  simp only [rangeI, List.mem_map, List.mem_range]
  exact ⟨fun ⟨i, h, e⟩ => ⟨i, h, e.symm⟩, fun ⟨i, h, e⟩ => ⟨i, h, e.symm⟩⟩
theorem rangeI_std (d : Int → Int) (k : Nat) : StD d (rangeI k) := by
  unfold StD rangeI
  rw [List.pairwise_map]
  refine List.Pairwise.imp (fun {a b} h _ => ?_) List.pairwise_lt_range
  omega
/-- The depth of a place. -/
def dpl (dl : List Int) (x : Int) : Int := dl.getD x.toNat 0
def idAtP (evs : List Ev) (x : Int) : Int := match evs[x.toNat]? with
  | some e => e.id
  | none => 0
/-- The Ids by depth, then by place. -/
def orderE (evs : List Ev) : List Int := (srtD (dpl (Gm.depthsE evs)) (rangeI evs.length)).map (idAtP evs)
theorem orderE_len (evs : List Ev) : (orderE evs).length = evs.length := by simp [orderE, Gm.srtD_len, rangeI_len]
section
variable {P : Program} [Is P]
theorem c_orderC (dl : List Int) (hd : dl.length < 2 ^ 60) (x y : Int) (hx : x ∈ rangeI dl.length) (hy : y ∈ rangeI dl.length) : Con P 201 [.int .i64 x, .int .i64 y, .fptr [.sl 1 (dl.map encI)] 0] (.int .i64 (cmpI (dpl dl x) (dpl dl y))) := by
  obtain ⟨i, hi, rfl⟩ := rangeI_mem.1 hx
  obtain ⟨j, hj, rfl⟩ := rangeI_mem.1 hy
  obtain ⟨u, hu⟩ : ∃ u, dl[i]? = some u := ⟨_, List.getElem?_eq_getElem hi⟩
  obtain ⟨v, hv⟩ : ∃ v, dl[j]? = some v := ⟨_, List.getElem?_eq_getElem hj⟩
  have e1 : dpl dl (i : Int) = u := by unfold dpl; rw [Int.toNat_natCast, List.getD_eq_getElem?_getD, hu]; rfl
  have e2 : dpl dl (j : Int) = v := by unfold dpl; rw [Int.toNat_natCast, List.getD_eq_getElem?_getD, hv]; rfl
  rw [e1, e2]
  refine Con.of (n := 15) (rs := [.tmp 5]) (Is.fn Try.func201) rfl (Is.call Try.call201) Try.results201 Try.ntmps201 trivial ?_
  simp (maxSteps := 4000000) only [method_specs_simp, seval]
  simp (maxSteps := 4000000) only [method_specs_simp, seval, hu, hv, encI]
  refine ⟨by kernel_rfl, by omega, by omega, by omega, by omega, ?_⟩
  refine clY.con (c172 u v) (by simp only [method_specs_simp]) ?_
  simp (maxSteps := 4000000) only [method_specs_simp, seval]
theorem n_order (g : Gr) (hx : EvsOK g.events) (hs : Gm.Srt g.events) (hin : ∀ e ∈ g.events, Gm.allIn g.events e = true) : NCon P 138 [.agg (encGr g)] (.ar 0 0 g.events.length) [.arr true 1 ((orderE g.events).map encI)] := by
  have hx1 := hx.1
  have hdl := (Gm.depths_ok g.events).len
  refine LCon.new (LCon.of (n := 48) (rs := [.tmp 2]) (Is.fn Try.func138) rfl (Is.call Try.call138) Try.results138 Try.ntmps138 ?_) (pure1 (pure_ints _ _))
  simp (maxSteps := 4000000) only [method_specs_simp, seval, encGr]
  refine clY.con (c_depths g hx hs hin) (by simp only [method_specs_simp, encGr]) ?_
  simp (maxSteps := 4000000) only [method_specs_simp, seval, encGr]
  obtain ⟨dl, hdd⟩ : ∃ dl, dl = Gm.depthsE g.events := ⟨_, rfl⟩
  rw [← hdd]
  refine SW.while (A := Nat) (fun i => ⟨pad 48 [.junk, .ptr 0 0, .nil, .ptr 1 0, .junk, .ar 2 0 i, .junk, .junk, .junk, .junk, .junk, .junk, .junk, .junk, .junk, .junk, .junk, .junk, .int .i64 g.events.length, .int .i64 i], [.box true (encGr g), .box true [.sl 1 (dl.map encI)], .arr true 1 ((rangeI i).map encI)], []⟩) (fun i => g.events.length - i) (fun i => i ≤ g.events.length) 0 [0, 1, 2] (Nat.zero_le _) ?_ ?_
  · simp only [mvcgen_simp, method_specs_simp, seval, encGr, rangeI, List.range_zero, List.map_nil]
  · intro i hi
    have hrl := rangeI_len i
    refine CW.sound ?_
    simp (maxSteps := 4000000) only [method_specs_simp, seval, encGr, hrl]
    refine gB_split (fun h => ?_) (fun h => ?_)
    · simp only [decide_eq_true_eq, Int.ofNat_lt] at h
      have w1 : IntKind.i64.wrap ((i : Int) + 1) = ((i + 1 : Nat) : Int) := wadd1 i (by omega)
      simp (maxSteps := 4000000) only [method_specs_simp, seval, encGr, w1, hrl]
      have e1 : (rangeI i).map encI ++ [[V.int IntKind.i64 (i : Int)]] = (rangeI (i + 1)).map encI := by rw [rangeI_succ, List.map_append]; rfl
      refine ⟨by omega, by omega, ?_⟩
      refine Again.mk (i + 1) [0, 1, 4] h (Nat.sub_lt_sub_left h (Nat.lt_succ_self _)) ?_
      rw [e1]
      simp only [mvcgen_simp, method_specs_simp, seval, encGr]
    · have hi2 : i = g.events.length := by simp only [decide_eq_false_iff_not, Bool.not_true, Int.ofNat_lt] at h; omega
      have hdn : dl.length = i := by rw [hdd, hdl, hi2]
      refine clY.live [2] [1] (n_sortStable (d := dpl dl) 201 dl (n := i) (l := rangeI i) (fun x hx y hy => c_orderC dl (by omega) x y (by rw [hdn]; exact hx) (by rw [hdn]; exact hy)) (rangeI_std _ _) hrl (by omega)) ?_ (by simp) ?_
      · simp only [mvcgen_simp, method_specs_simp, seval, encGr, hrl]
      simp (maxSteps := 4000000) only [method_specs_simp, seval, encGr]
      obtain ⟨ps, hps⟩ : ∃ ps, ps = srtD (dpl dl) (rangeI i) := ⟨_, rfl⟩
      have hpl : ps.length = i := by rw [hps, Gm.srtD_len, hrl]
      have hpm : ∀ x ∈ ps, ∃ k : Nat, k < i ∧ x = (k : Int) := fun x hx => rangeI_mem.1 ((Gm.srtD_perm _ _).subset (by rw [← hps]; exact hx))
      have hor : orderE g.events = ps.map (idAtP g.events) := by unfold orderE; rw [hps, ← hdd, hi2]
      rw [← hps, ← hi2]
      refine SW.while (A := Nat) (fun j => ⟨pad 48 [.junk, .ptr 0 0, .nil, .junk, .junk, .junk, .junk, .ar 2 0 j, .junk, .junk, .junk, .junk, .junk, .junk, .junk, .junk, .junk, .junk, .junk, .junk, .junk, .junk, .junk, .junk, .junk, .junk, .junk, .junk, .junk, .junk, .junk, .ar 1 0 i, .int .i64 i, .int .i64 j], [.box true (encGr g), .arr true 1 (ps.map encI), .arr true 1 (((ps.take j).map (idAtP g.events)).map encI)], []⟩) (fun j => i - j) (fun j => j ≤ i) 0 [0, 2, 3] (Nat.zero_le _) ?_ ?_
      · simp only [mvcgen_simp, method_specs_simp, seval, encGr, List.take_zero, List.map_nil]
      · intro j hj
        have hol : ((ps.take j).map (idAtP g.events)).length = j := by rw [List.length_map, List.length_take]; omega
        refine CW.sound ?_
        simp (maxSteps := 4000000) only [method_specs_simp, seval, encGr, hpl]
        refine gB_split (fun h1 => ?_) (fun h1 => ?_)
        · simp only [decide_eq_true_eq, Int.ofNat_lt] at h1
          obtain ⟨x, hx⟩ : ∃ x, ps[j]? = some x := ⟨_, List.getElem?_eq_getElem (by omega)⟩
          obtain ⟨k, hk, rfl⟩ := hpm x (List.mem_of_getElem? hx)
          obtain ⟨e, he⟩ : ∃ e, g.events[k]? = some e := ⟨_, List.getElem?_eq_getElem (by omega)⟩
          have hid : idAtP g.events (k : Int) = e.id := by unfold idAtP; rw [Int.toNat_natCast, he]
          have w1 : IntKind.i64.wrap ((j : Int) + 1) = ((j + 1 : Nat) : Int) := wadd1 j (by omega)
          have e1 : ((ps.take j).map (idAtP g.events)).map encI ++ [[V.int .i64 e.id]] = ((ps.take (j + 1)).map (idAtP g.events)).map encI := by
            rw [List.take_add_one, hx, Option.toList_some, List.map_append, List.map_append, List.map_singleton, List.map_singleton, hid]; rfl
          simp (maxSteps := 4000000) only [method_specs_simp, seval, encGr, w1, hol, hx, he, encI, encEv, hpl]
          refine ⟨by omega, by omega, by omega, by omega, by omega, by omega, ?_⟩
          refine Again.mk (j + 1) [0, 1, 4] h1 (Nat.sub_lt_sub_left h1 (Nat.lt_succ_self _)) ?_
          rw [e1]
          simp only [mvcgen_simp, method_specs_simp, seval, encGr]
        · have hj2 : j = i := by simp only [decide_eq_false_iff_not, Bool.not_true, Int.ofNat_lt] at h1; omega
          subst hj2
          have e2 : (ps.take j).map (idAtP g.events) = orderE g.events := by rw [hor, List.take_of_length_le (by omega)]
          refine LResY.mk [2] ?_
          simp only [mvcgen_simp, method_specs_simp, seval, encGr, e2]
end
end Go.Proofs.Ytkcllejnmpnjfaa
