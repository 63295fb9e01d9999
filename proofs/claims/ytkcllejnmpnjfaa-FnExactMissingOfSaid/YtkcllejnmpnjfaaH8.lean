/- The order of a graph's events, as the reference reckons it: depth by depth. Conditions: lengths that fit a machine. -/
import Derived.Test.YtkcllejnmpnjfaaH7
namespace Go.Proofs.Ytkcllejnmpnjfaa
open Go.Pm
open Go.Gm (Ev Gr LtD ltD StD srtD)
set_option maxRecDepth 10000
set_option linter.unusedSimpArgs false
set_option linter.unusedVariables false
set_option maxHeartbeats 4000000
theorem sub_erase {l m : List Int} {x : Int} (hx : x ∉ l) (h : l ⊆ m) : l ⊆ m.erase x := fun y hy => by
  have hne : y ≠ x := fun e => hx (e ▸ hy)
  exact (List.mem_erase_of_ne hne).2 (h hy)
theorem nodup_len : ∀ {l m : List Int}, l.Nodup → l ⊆ m → l.length ≤ m.length
  | [], m, _, _ => Nat.zero_le _
  | x :: l, m, hn, h => by
    have h1 := List.nodup_cons.1 hn
    have hx : x ∈ m := h List.mem_cons_self
    have := nodup_len h1.2 (sub_erase h1.1 fun y hy => h (List.mem_cons_of_mem _ hy))
    rw [List.length_erase_of_mem hx] at this
    have := List.length_pos_of_mem hx
    simp only [List.length_cons]; omega
theorem nodup_perm : ∀ {l m : List Int}, l.Nodup → l ⊆ m → m.length ≤ l.length → l.Perm m
  | [], m, _, _, hl => by
    have : m = [] := List.eq_nil_of_length_eq_zero (by simpa using hl)
    rw [this]
  | x :: l, m, hn, h, hl => by
    have h1 := List.nodup_cons.1 hn
    have hx : x ∈ m := h List.mem_cons_self
    have hp := List.length_pos_of_mem hx
    have := nodup_perm h1.2 (sub_erase h1.1 fun y hy => h (List.mem_cons_of_mem _ hy)) (by rw [List.length_erase_of_mem hx]; simp only [List.length_cons] at hl; omega)
    exact (this.cons x).trans (List.perm_cons_erase hx).symm
/-- The places of depth k, up to place i. -/
def lvl (dl : List Int) (k : Int) (i : Nat) : List Int := (rangeI i).filter fun x => dpl dl x == k
/-- The places of depths below k. -/
def upto (dl : List Int) : Nat → List Int
  | 0 => []
  | k + 1 => upto dl k ++ lvl dl (k : Int) dl.length
theorem upto_mem {dl : List Int} : ∀ {k : Nat} {x : Int}, x ∈ upto dl k ↔ x ∈ rangeI dl.length ∧ 0 ≤ dpl dl x ∧ dpl dl x < k
  | 0, x => ⟨fun h => by simp [upto] at h, fun h => by omega⟩
  | k + 1, x => by
    rw [upto, List.mem_append, upto_mem, lvl, List.mem_filter, beq_iff_eq]
    constructor
    · rintro (⟨h1, h2, h3⟩ | ⟨h1, h2⟩)
      · exact ⟨h1, h2, by omega⟩
      · exact ⟨h1, by omega, by omega⟩
    · rintro ⟨h1, h2, h3⟩
      by_cases h : dpl dl x = k
      · exact .inr ⟨h1, h⟩
      · exact .inl ⟨h1, h2, by omega⟩
theorem rangeI_lt (k : Nat) : (rangeI k).Pairwise (· < ·) := by
  unfold rangeI
  rw [List.pairwise_map]
  exact List.Pairwise.imp (fun {a b} h => by omega) List.pairwise_lt_range
theorem upto_sorted (dl : List Int) : ∀ k, (upto dl k).Pairwise (LtD (dpl dl))
  | 0 => List.Pairwise.nil
  | k + 1 => by
    rw [upto]
    refine List.pairwise_append.2 ⟨upto_sorted dl k, ?_, fun x hx y hy => ?_⟩
    · refine List.Pairwise.imp_of_mem (fun {a b} ha hb h => ?_) ((rangeI_lt dl.length).sublist List.filter_sublist)
      rw [lvl, List.mem_filter, beq_iff_eq] at ha hb
      rw [Gm.ltD_iff]
      exact .inr ⟨by omega, h⟩
    · have h1 := (upto_mem.1 hx).2
      rw [lvl, List.mem_filter, beq_iff_eq] at hy
      rw [Gm.ltD_iff]
      exact .inl (by omega)
theorem lt_nodup {dl : List Int} {l : List Int} (h : l.Pairwise (LtD (dpl dl))) : l.Nodup := List.Pairwise.imp (fun {x y} h e => by subst e; exact (Gm.ltD_str _).irr _ h) h
/-- When all places are there, they are the sorted ones. -/
theorem upto_all {dl : List Int} {k : Nat} (hnn : ∀ x ∈ rangeI dl.length, 0 ≤ dpl dl x) (hk : dl.length ≤ (upto dl k).length) : upto dl k = srtD (dpl dl) (rangeI dl.length) := by
  have hnd := lt_nodup (upto_sorted dl k)
  have hsub : upto dl k ⊆ rangeI dl.length := fun x hx => (upto_mem.1 hx).1
  refine Gm.srtD_of ?_ (upto_sorted dl k)
  exact nodup_perm hnd hsub (by rw [rangeI_len]; exact hk)
theorem upto_len_le (dl : List Int) (k : Nat) : (upto dl k).length ≤ dl.length := by
  have h1 := nodup_len (lt_nodup (upto_sorted dl k)) (fun x hx => (upto_mem.1 hx).1 : upto dl k ⊆ rangeI dl.length)
  rwa [rangeI_len] at h1
/-- Some place is still to come: its depth is not below k. -/
theorem upto_more {dl : List Int} {k : Nat} (hnn : ∀ x ∈ rangeI dl.length, 0 ≤ dpl dl x) (hk : (upto dl k).length < dl.length) : ∃ x ∈ rangeI dl.length, (k : Int) ≤ dpl dl x := by
  by_cases h : ∃ x ∈ rangeI dl.length, (k : Int) ≤ dpl dl x
  · exact h
  · exfalso
    have hsub : rangeI dl.length ⊆ upto dl k := fun x hx => upto_mem.2 ⟨hx, hnn x hx, by
      by_cases h2 : (k : Int) ≤ dpl dl x
      · exact absurd ⟨x, hx, h2⟩ h
      · omega⟩
    have hn : (rangeI dl.length).Nodup := (rangeI_std (fun _ => 0) _).nodup
    have := nodup_len hn hsub
    rw [rangeI_len] at this
    omega
theorem lvl_succ {dl : List Int} {k : Int} {i : Nat} {x : Int} (h : dl[i]? = some x) : lvl dl k (i + 1) = lvl dl k i ++ (if (x == k) = true then [(i : Int)] else []) := by
  have e : dpl dl (i : Int) = x := by unfold dpl; rw [Int.toNat_natCast, List.getD_eq_getElem?_getD, h]; rfl
  unfold lvl
  rw [rangeI_succ, List.filter_append]
  congr 1
  rw [List.filter_cons, e]
  cases hx : x == k <;> rfl
theorem lvl_zero (dl : List Int) (k : Int) : lvl dl k 0 = [] := rfl
theorem lvl_mem {dl : List Int} {k : Int} {i : Nat} {x : Int} (h : x ∈ lvl dl k i) : ∃ j : Nat, j < i ∧ x = (j : Int) := rangeI_mem.1 (List.mem_filter.1 h).1
theorem iter_bd {evs : List Ev} : ∀ (k : Nat) {d : List Int}, Gm.OkD evs d → Gm.BdD evs d → Gm.BdD evs (Gm.iterD evs k d)
  | 0, d, _, h => h
  | k + 1, d, h, hb => iter_bd k (by exact Gm.passK_ok h _) (by exact Gm.passK_bd h hb _)
theorem depths_bd (evs : List Ev) : ∀ x ∈ Gm.depthsE evs, x ≤ evs.length := fun x hx => by
  have := iter_bd evs.length (Gm.OkD.zero evs) (Gm.BdD.zero evs) x hx
  omega
theorem dpl_mem {dl : List Int} {x : Int} (h : x ∈ rangeI dl.length) : dpl dl x ∈ dl := by
  obtain ⟨i, hi, rfl⟩ := rangeI_mem.1 h
  unfold dpl
  rw [Int.toNat_natCast, List.getD_eq_getElem?_getD, List.getElem?_eq_getElem hi]
  exact List.getElem_mem hi
theorem upto_one {dl : List Int} (hpos : ∀ x ∈ dl, 1 ≤ x) : upto dl 1 = [] := by
  rw [List.eq_nil_iff_forall_not_mem]
  intro x hx
  have h := upto_mem.1 hx
  have := hpos _ (dpl_mem h.1)
  omega
/-- What is put out, within depth k up to place i. -/
def outL (dl : List Int) (k i : Nat) : List Int := upto dl k ++ lvl dl (k : Int) i
theorem outL_zero (dl : List Int) (k : Nat) : outL dl k 0 = upto dl k := by unfold outL; rw [lvl_zero, List.append_nil]
theorem outL_all (dl : List Int) (k : Nat) : outL dl k dl.length = upto dl (k + 1) := rfl
theorem outL_yes {dl : List Int} {k i : Nat} {x : Int} (h : dl[i]? = some x) (hx : (x == (k : Int)) = true) : outL dl k (i + 1) = outL dl k i ++ [(i : Int)] := by
  unfold outL; rw [lvl_succ h, if_pos hx, List.append_assoc]
theorem outL_no {dl : List Int} {k i : Nat} {x : Int} (h : dl[i]? = some x) (hx : (x == (k : Int)) = false) : outL dl k (i + 1) = outL dl k i := by
  unfold outL; rw [lvl_succ h, hx, if_neg (by simp), List.append_nil]
theorem outL_len (dl : List Int) (k i : Nat) : (outL dl k i).length ≤ dl.length + i := by
  have h5 := List.length_filter_le (fun x => dpl dl x == (k : Int)) (rangeI i)
  rw [rangeI_len] at h5
  have := upto_len_le dl k
  unfold outL; rw [List.length_append]; unfold lvl; omega
section
variable {P : Program} [Is P]
theorem c_l03Sort (g : Gr) (hx : EvsOK g.events) (hin : ∀ e ∈ g.events, Gm.allIn g.events e = true) (hpos : ∀ x ∈ Gm.depthsE g.events, 1 ≤ x) : Con P 137 [.agg (encGr g)] (.sl 1 ((orderE g.events).map encI)) := by
  have hx1 := hx.1
  have hdl := (Gm.depths_ok g.events).len
  refine Con.of (n := 42) (rs := [.tmp 2]) (Is.fn Try.func137) rfl (Is.call Try.call137) Try.results137 Try.ntmps137 (by simp only [method_specs_simp]) ?_
  simp (maxSteps := 4000000) only [method_specs_simp, seval, encGr]
  refine clY.con (c_l03Depths g.events hx hin) (by simp only [method_specs_simp, encGr]) ?_
  simp (maxSteps := 4000000) only [method_specs_simp, seval, encGr]
  obtain ⟨dl, hdd⟩ : ∃ dl, dl = Gm.depthsE g.events := ⟨_, rfl⟩
  rw [← hdd] at hdl hpos
  rw [← hdd]
  have hnn : ∀ x ∈ rangeI dl.length, 0 ≤ dpl dl x := fun x hx => by have := hpos _ (dpl_mem hx); omega
  have hbd : ∀ x ∈ rangeI dl.length, dpl dl x ≤ g.events.length := fun x hx => depths_bd g.events _ (by rw [← hdd]; exact dpl_mem hx)
  refine SW.while (A := Nat) (fun k => ⟨pad 42 [.junk, .ptr 0 0, .nil, .sl 1 (dl.map encI), .ar 1 0 (upto dl k).length, .int .i64 k], [.box true (encGr g), .arr true 1 (((upto dl k).map (idAtP g.events)).map encI)], []⟩) (fun k => g.events.length + 1 - k) (fun k => 1 ≤ k ∧ k ≤ g.events.length + 1) 1 [0, 1] ⟨Nat.le_refl _, by omega⟩ ?_ ?_
  · simp only [mvcgen_simp, method_specs_simp, seval, encGr, upto_one hpos, List.map_nil, List.length_nil]
  · rintro k ⟨hk1, hk2⟩
    have hul := upto_len_le dl k
    refine CW.sound ?_
    simp (maxSteps := 4000000) only [method_specs_simp, seval, encGr]
    refine gB_split (fun h => ?_) (fun h => ?_)
    · simp only [decide_eq_true_eq, Int.ofNat_lt] at h
      obtain ⟨x, hx2, hx3⟩ := upto_more hnn (k := k) (by omega)
      have hkn := hbd x hx2
      refine SW.while (A := Nat) (fun i => ⟨pad 42 [.junk, .ptr 0 0, .nil, .sl 1 (dl.map encI), .ar 1 0 (outL dl k i).length, .int .i64 k, .int .i64 i], [.box true (encGr g), .arr true 1 (((outL dl k i).map (idAtP g.events)).map encI)], []⟩) (fun i => g.events.length - i) (fun i => i ≤ g.events.length) 0 [0, 1] (Nat.zero_le _) ?_ ?_
      · simp only [mvcgen_simp, method_specs_simp, seval, encGr, outL_zero]
      · intro i hi
        have hol := outL_len dl k i
        refine CW.sound ?_
        simp (maxSteps := 4000000) only [method_specs_simp, seval, encGr]
        refine gB_split (fun h1 => ?_) (fun h1 => ?_)
        · simp only [decide_eq_true_eq, Int.ofNat_lt] at h1
          obtain ⟨v, hv⟩ : ∃ v, dl[i]? = some v := ⟨_, List.getElem?_eq_getElem (by omega)⟩
          obtain ⟨e, he⟩ : ∃ e, g.events[i]? = some e := ⟨_, List.getElem?_eq_getElem h1⟩
          have hid : idAtP g.events (i : Int) = e.id := by unfold idAtP; rw [Int.toNat_natCast, he]
          have w1 : IntKind.i64.wrap ((i : Int) + 1) = ((i + 1 : Nat) : Int) := wadd1 i (by omega)
          simp (maxSteps := 4000000) only [method_specs_simp, seval, encGr, hv, encI, hdl]
          refine ⟨by omega, by omega, ?_⟩
          cases hvk : v == (k : Int) with
          | true =>
            have hsu := outL_yes hv hvk
            have e1 : ((outL dl k i).map (idAtP g.events)).map encI ++ [[V.int .i64 e.id]] = ((outL dl k (i + 1)).map (idAtP g.events)).map encI := by
              rw [hsu, List.map_append, List.map_append, List.map_singleton, List.map_singleton, hid]; rfl
            have e2 : (outL dl k (i + 1)).length = (outL dl k i).length + 1 := by rw [hsu, List.length_append]; rfl
            simp (maxSteps := 4000000) only [method_specs_simp, seval, encGr, he, encEv, w1]
            refine ⟨by omega, by omega, by omega, by omega, ?_⟩
            refine Again.mk (i + 1) [0, 3] h1 (Nat.sub_lt_sub_left h1 (Nat.lt_succ_self _)) ?_
            rw [e1, ← e2]
            simp only [mvcgen_simp, method_specs_simp, seval, encGr]
          | false =>
            have hsu := outL_no hv hvk
            simp (maxSteps := 4000000) only [method_specs_simp, seval, encGr]
            refine Again.mk (i + 1) [0, 1] h1 (Nat.sub_lt_sub_left h1 (Nat.lt_succ_self _)) ?_
            rw [hsu, w1]
            simp only [mvcgen_simp, method_specs_simp, seval, encGr]
        · have hi2 : i = g.events.length := by simp only [decide_eq_false_iff_not, Bool.not_true, Int.ofNat_lt] at h1; omega
          have w1 : IntKind.i64.wrap ((k : Int) + 1) = ((k + 1 : Nat) : Int) := wadd1 k (by omega)
          have e3 : outL dl k i = upto dl (k + 1) := by rw [hi2, ← hdl]; rfl
          simp (maxSteps := 4000000) only [method_specs_simp, seval, encGr, w1]
          refine Again.mk (k + 1) [0, 1] ⟨by omega, by omega⟩ (by omega) ?_
          rw [e3]
          simp only [mvcgen_simp, method_specs_simp, seval, encGr]
    · simp only [decide_eq_false_iff_not, Bool.not_true, Int.ofNat_lt] at h
      have e4 : (upto dl k).map (idAtP g.events) = orderE g.events := by
        unfold orderE
        rw [upto_all hnn (by omega), ← hdd, hdl]
      have e5 : (upto dl k).length = ((upto dl k).map (idAtP g.events)).length := (List.length_map _).symm
      rw [e5, e4]
      simp (maxSteps := 4000000) only [method_specs_simp, seval, encGr]
end
end Go.Proofs.Ytkcllejnmpnjfaa
