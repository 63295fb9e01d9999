/- The law of SortOf: for every graph. No conditions but the sizes that an input has. -/
import Derived.Test.YtkcllejnmpnjfaaH8
import Derived.Test.YtkcllejnmpnjfaaE2
namespace Go.Proofs.Ytkcllejnmpnjfaa
open Go.Pm
open Go.Gm (Ev Gr)
set_option maxRecDepth 10000
set_option linter.unusedSimpArgs false
set_option linter.unusedVariables false
set_option maxHeartbeats 4000000
@[method_specs_simp] theorem refss_nil (ok : Nat → Prop) : Refss ok [] = True := eq_true trivial
theorem right_in {g : Gr} (hr : Gm.grRight g = true) : ∀ e ∈ g.events, Gm.allIn g.events e = true := fun e he => by
  simp only [Gm.grRight, Bool.and_eq_true, List.all_eq_true] at hr
  exact (hr.2.2.2.1 e he).1
theorem right_pos {g : Gr} (hr : Gm.grRight g = true) : ∀ x ∈ Gm.depthsE g.events, 1 ≤ x := fun x hx => by
  have h0 := (Gm.depths_ok g.events).nn x hx
  simp only [Gm.grRight, Bool.and_eq_true, List.all_eq_true] at hr
  have := hr.2.2.2.2.2
  rw [Gm.allPos, List.all_eq_true] at this
  have := this x hx
  have hne : x ≠ 0 := by simpa using this
  omega
theorem dcv_flat {m : List Ob} {q n sz : Nat} {lv : Bool} {zs : List (List V)} (h : m[q]? = some (.arr lv sz zs)) (hn : zs.length = n) : dcv 1 m (.ar q 0 n) = .sl sz zs := by
  simp only [dcv, h, List.drop_zero]
  rw [List.take_of_length_le (by omega)]
  congr 1
  simp only [List.map_id', List.map_id_fun']
  try simp
theorem dcv_ints {m : List Ob} {q : Nat} {zs : List Int} (h : m[q]? = some (.arr true 1 (zs.map encI))) : dcv 1 m (.ar q 0 zs.length) = .sl 1 (zs.map encI) := dcv_flat h (List.length_map _)
section
variable {P : Program} [Is P]
theorem c_sSortOf (g : Gr) (hg : GrOK g) (hr : Gm.grRight g = true) : Con P 50 [.agg (encGr g)] (.sl 1 ((orderE g.events).map encI)) := by
  refine Con.of (n := 9) (rs := [.tmp 2]) (Is.fn Try.func50) rfl (Is.call Try.call50) Try.results50 Try.ntmps50 (by simp only [method_specs_simp]) ?_
  simp (maxSteps := 4000000) only [method_specs_simp, seval]
  refine clY.con (c_sGraphRight g hg) (by simp only [method_specs_simp]) ?_
  simp (maxSteps := 4000000) only [method_specs_simp, seval, hr]
  refine clY.con (c_l03Sort g hg.1 (right_in hr) (right_pos hr)) (by simp only [method_specs_simp]) ?_
  simp (maxSteps := 4000000) only [method_specs_simp, seval]
theorem c_sSortOfZ (g : Gr) (hg : GrOK g) (hr : Gm.grRight g = false) : Con P 50 [.agg (encGr g)] (.sl 1 (([] : List Int).map encI)) := by
  refine Con.of (n := 9) (rs := [.tmp 2]) (Is.fn Try.func50) rfl (Is.call Try.call50) Try.results50 Try.ntmps50 trivial ?_
  simp (maxSteps := 4000000) only [method_specs_simp, seval]
  refine clY.con (c_sGraphRight g hg) (by simp only [method_specs_simp]) ?_
  simp (maxSteps := 4000000) only [method_specs_simp, seval, hr, List.map_nil]
theorem n_SortOf (g : Gr) (hg : GrOK g) (hr : Gm.grRight g = true) : LCon P 51 [.agg (encGr g)] [] (.ar 0 0 (orderE g.events).length) [.arr true 1 ((orderE g.events).map encI)] := by
  have hs := (grRight_srt hr).1
  rw [orderE_len]
  refine LCon.of (n := 8) (rs := [.tmp 2]) (Is.fn Try.func51) rfl (Is.call Try.call51) Try.results51 Try.ntmps51 ?_
  simp (maxSteps := 4000000) only [method_specs_simp, seval]
  refine clY.con (c_GraphRight g hg) (by simp only [method_specs_simp]) ?_
  simp (maxSteps := 4000000) only [method_specs_simp, seval, hr]
  refine clY.new (n_order g hg.1 hs (right_in hr)) (by simp only [method_specs_simp]) ?_
  simp (maxSteps := 4000000) only [method_specs_simp, seval]
  refine LResY.mk [1] ?_
  simp only [mvcgen_simp, method_specs_simp, seval]
theorem c_SortOfZ (g : Gr) (hg : GrOK g) (hr : Gm.grRight g = false) : Con P 51 [.agg (encGr g)] .nil := by
  refine Con.of (n := 8) (rs := [.tmp 2]) (Is.fn Try.func51) rfl (Is.call Try.call51) Try.results51 Try.ntmps51 trivial ?_
  simp (maxSteps := 4000000) only [method_specs_simp, seval]
  refine clY.con (c_GraphRight g hg) (by simp only [method_specs_simp]) ?_
  simp (maxSteps := 4000000) only [method_specs_simp, seval, hr]
theorem s_law (g : Gr) (zs : List Int) (hg : GrOK g) (hz : zs.length < 2 ^ 50) (h46 : Con P 50 [.agg (encGr g)] (.sl 1 (zs.map encI))) (h47 : LCon P 51 [.agg (encGr g)] [] (.ar 0 0 zs.length) [.arr true 1 (zs.map encI)]) :
    Con P 6 [.agg (encGr g)] (.bool true) := by
  refine Con.of (n := 69) (rs := [.tmp 2]) (Is.fn Try.func6) rfl (Is.call Try.call6) Try.results6 Try.ntmps6 trivial ?_
  simp (maxSteps := 4000000) only [method_specs_simp, seval]
  refine clY.con (c_szGraph g 1048576 (by decide) (by decide) hg) (by simp only [method_specs_simp]) ?_
  simp (maxSteps := 4000000) only [method_specs_simp, seval]
  refine gB_split (fun _ => trivial) (fun w1 => ?_)
  obtain ⟨q1, q2, q3⟩ := sb_yes (wG_nn g) w1
  refine clY.con (c_toGraph g hg) (by simp only [method_specs_simp]) ?_
  simp (maxSteps := 4000000) only [method_specs_simp, seval]
  refine clY.con (h46) (by simp only [method_specs_simp]) ?_
  simp (maxSteps := 4000000) only [method_specs_simp, seval]
  refine clY.newD 0 (n_toGraph g hg) (dcv_zero _ _) (by simp only [method_specs_simp]) (grV_flat 0 g) (obG_flat g) ?_
  obtain ⟨G, hG⟩ : ∃ G, G = obGb 1 g := ⟨_, rfl⟩
  obtain ⟨N, hN⟩ : ∃ N, N = g.events.length + 1 + (g.parked.length + 1) := ⟨_, rfl⟩
  have hp : Past G N := Past.mk' (by rw [hG, hN, obGb_len])
  have hA1 : ∀ L : List Ob, (G ++ L)[0]? = some (.arr true 9 (rowsEv 2 g.events)) := fun L => by rw [hG]; rfl
  have hA2 : ∀ (a : Ob) (L : List Ob), (a :: (G ++ L))[1 + (g.events.length + 1)]? = some (.arr true 9 (rowsEv (1 + (g.events.length + 1) + 1) g.parked)) := fun a L => by
    rw [hG]; exact obGb_one g a L
  simp (maxSteps := 4000000) only [method_specs_simp, seval, hp.len, hp.g0, hp.g, hp.b0, hp.b, hp.v0, hp.v, hp.a0, hp.a, hp.w0, hp.w, hp.s0, hp.s, List.append_assoc, List.cons_append, List.nil_append, obG_ren, grV, ← hG, hA1, hA2]
  have hL : ∀ (a : Ob) (L : List Ob), LiesG (a :: (G ++ L)) 1 g := fun a L => LiesG.mk (A := [a]) rfl (by rw [hG]; rfl)
  refine clY.newD 3 h47 ?_ ⟨encGr_ref1 _ g, trivial⟩ trivial (flat1 ⟨rfl, flat_ints _⟩) ?_
  · show [dcv 3 _ (.agg (grV 1 g))] = _
    rw [(hL _ _).dcv]
  simp (maxSteps := 4000000) only [method_specs_simp, seval, hp.len, hp.g0, hp.g, hp.b0, hp.b, hp.v0, hp.v, hp.a0, hp.a, hp.w0, hp.w, hp.s0, hp.s, List.append_assoc, List.cons_append, List.nil_append]
  refine clY.conD 1 (c_eqInt64S zs (by omega)) ?_ ⟨of_eq_true (encI_refs _ zs), of_eq_true (encI_refs _ zs), trivial⟩ trivial ?_
  · show [dcv 1 _ (.ar (N + 2) 0 zs.length), dcv 1 _ (.sl 1 (zs.map encI))] = _
    rw [dcv_ints]
    rfl
    simp (maxSteps := 4000000) only [method_specs_simp, seval, hp.len, hp.g0, hp.g, hp.b0, hp.b, hp.v0, hp.v, hp.a0, hp.a, hp.w0, hp.w, hp.s0, hp.s, List.append_assoc, List.cons_append, List.nil_append]
  simp (maxSteps := 4000000) only [method_specs_simp, seval, hp.len, hp.g0, hp.g, hp.b0, hp.b, hp.v0, hp.v, hp.a0, hp.a, hp.w0, hp.w, hp.s0, hp.s, List.append_assoc, List.cons_append, List.nil_append]
  refine ⟨by kernel_rfl, ?_⟩
  refine clY.con (c_toGraph g hg) (by simp only [method_specs_simp, hp.len, hp.g0, hp.g, hp.b0, hp.b, hp.v0, hp.v, hp.a0, hp.a, hp.w0, hp.w, hp.s0, hp.s, List.append_assoc, List.cons_append, List.nil_append]) ?_
  simp (maxSteps := 4000000) only [method_specs_simp, seval, hp.len, hp.g0, hp.g, hp.b0, hp.b, hp.v0, hp.v, hp.a0, hp.a, hp.w0, hp.w, hp.s0, hp.s, List.append_assoc, List.cons_append, List.nil_append]
  refine clY.conD 3 (c_eqGraph g hg) ?_ ⟨encGr_ref1 _ g, encGr_ref1 _ g, trivial⟩ trivial ?_
  · show [dcv 3 _ (.agg (grV 1 g)), dcv 3 _ (.agg (encGr g))] = _
    rw [(hL _ _).dcv, dcv_encG]
  simp (maxSteps := 4000000) only [method_specs_simp, seval, hp.len, hp.g0, hp.g, hp.b0, hp.b, hp.v0, hp.v, hp.a0, hp.a, hp.w0, hp.w, hp.s0, hp.s, List.append_assoc, List.cons_append, List.nil_append, Bool.not_true]
  have b1 := wM_le g.events
  have b2 := wM_le g.parked
  have b3 := wM_nn g.events
  have b4 := wM_nn g.parked
  have hwG : wG g = (g.events.length + wEs g.events) + (g.parked.length + wEs g.parked) := rfl
  have hk : decide (1 + (wM g.events + wM g.parked) < 0) = false := decide_eq_false (by omega)
  refine clY.segG1 hG (n_markGraph g 1 (by decide) (by decide) hg (by omega)) (mGr_len 1 g) trivial ⟨trivial, trivial⟩ (fun m => by simp only [convs, conv]) ?_
  obtain ⟨G2, hG2⟩ : ∃ G2, G2 = obGb 1 (mGr 1 g) := ⟨_, rfl⟩
  have hp2 : Past G2 N := Past.mk' (by rw [hG2, hN, obGb_len]; simp only [mGr, mEvs_len])
  rw [← hG2]
  have hmi := mInts_len zs.length 1
  have hk2 : decide (1 + (zs.length : Int) < 0) = false := decide_eq_false (by omega)
  simp (maxSteps := 4000000) only [method_specs_simp, seval, hk, hk2, bne_self_eq_false, Bool.not_true, hp2.len, hp2.g0, hp2.g, hp2.b0, hp2.b, hp2.v0, hp2.v, hp2.a0, hp2.a, hp2.w0, hp2.w, hp2.s0, hp2.s, List.append_assoc, List.cons_append, List.nil_append]
  refine clY.conD 1 (c_eqInt64S zs (by omega)) ?_ ⟨of_eq_true (encI_refs _ zs), of_eq_true (encI_refs _ zs), trivial⟩ trivial ?_
  · show [dcv 1 _ (.ar (N + 2) 0 zs.length), dcv 1 _ (.sl 1 (zs.map encI))] = _
    rw [dcv_ints]
    rfl
    simp (maxSteps := 4000000) only [method_specs_simp, seval, hk, hk2, bne_self_eq_false, Bool.not_true, hp2.len, hp2.g0, hp2.g, hp2.b0, hp2.b, hp2.v0, hp2.v, hp2.a0, hp2.a, hp2.w0, hp2.w, hp2.s0, hp2.s, List.append_assoc, List.cons_append, List.nil_append]
  simp (maxSteps := 4000000) only [method_specs_simp, seval, hk, hk2, bne_self_eq_false, Bool.not_true, hp2.len, hp2.g0, hp2.g, hp2.b0, hp2.b, hp2.v0, hp2.v, hp2.a0, hp2.a, hp2.w0, hp2.w, hp2.s0, hp2.s, List.append_assoc, List.cons_append, List.nil_append]
  refine clY.at1 (q := N + 2) (n_markInt64S zs 1 (by decide) (by decide) (by omega)) ?_ (pure_ints _ _) (pure_ints _ _) trivial ⟨trivial, trivial⟩ (by simp only [convs, conv]) ?_
  · simp (maxSteps := 4000000) only [method_specs_simp, seval, hk, hk2, bne_self_eq_false, Bool.not_true, hp2.len, hp2.g0, hp2.g, hp2.b0, hp2.b, hp2.v0, hp2.v, hp2.a0, hp2.a, hp2.w0, hp2.w, hp2.s0, hp2.s, List.append_assoc, List.cons_append, List.nil_append]
  simp (maxSteps := 4000000) only [method_specs_simp, seval, hk, hk2, bne_self_eq_false, Bool.not_true, hp2.len, hp2.g0, hp2.g, hp2.b0, hp2.b, hp2.v0, hp2.v, hp2.a0, hp2.a, hp2.w0, hp2.w, hp2.s0, hp2.s, List.append_assoc, List.cons_append, List.nil_append]
  refine clY.conD 1 (c_heldInt64S 1 zs.length (by decide) (by decide) (by omega)) ?_ ⟨of_eq_true (encI_refs _ _), trivial, trivial⟩ trivial ?_
  · show [dcv 1 _ (.ar (N + 2) 0 zs.length), dcv 1 _ (.int .i64 1)] = _
    rw [dcv_flat (zs := (mInts 1 zs.length).map encI) (lv := true) (sz := 1)]
    rfl
    simp (maxSteps := 4000000) only [method_specs_simp, seval, hk, hk2, bne_self_eq_false, Bool.not_true, hp2.len, hp2.g0, hp2.g, hp2.b0, hp2.b, hp2.v0, hp2.v, hp2.a0, hp2.a, hp2.w0, hp2.w, hp2.s0, hp2.s, List.append_assoc, List.cons_append, List.nil_append]
    rw [List.length_map, hmi]
  simp (maxSteps := 4000000) only [method_specs_simp, seval, hk, hk2, bne_self_eq_false, Bool.not_true, hp2.len, hp2.g0, hp2.g, hp2.b0, hp2.b, hp2.v0, hp2.v, hp2.a0, hp2.a, hp2.w0, hp2.w, hp2.s0, hp2.s, List.append_assoc, List.cons_append, List.nil_append]
  refine clY.con (c_toGraph g hg) (by simp only [method_specs_simp, hk, hk2, bne_self_eq_false, Bool.not_true, hp2.len, hp2.g0, hp2.g, hp2.b0, hp2.b, hp2.v0, hp2.v, hp2.a0, hp2.a, hp2.w0, hp2.w, hp2.s0, hp2.s, List.append_assoc, List.cons_append, List.nil_append]) ?_
  simp (maxSteps := 4000000) only [method_specs_simp, seval, hk, hk2, bne_self_eq_false, Bool.not_true, hp2.len, hp2.g0, hp2.g, hp2.b0, hp2.b, hp2.v0, hp2.v, hp2.a0, hp2.a, hp2.w0, hp2.w, hp2.s0, hp2.s, List.append_assoc, List.cons_append, List.nil_append]
  refine clY.newD 0 h47 (dcv_zero _ _) ⟨encGr_ref1 _ g, trivial⟩ trivial (flat1 ⟨rfl, flat_ints _⟩) ?_
  simp (maxSteps := 4000000) only [method_specs_simp, seval, hk, hk2, bne_self_eq_false, Bool.not_true, hp2.len, hp2.g0, hp2.g, hp2.b0, hp2.b, hp2.v0, hp2.v, hp2.a0, hp2.a, hp2.w0, hp2.w, hp2.s0, hp2.s, List.append_assoc, List.cons_append, List.nil_append]
  refine clY.conD 1 (c_eqInt64S zs (by omega)) ?_ ⟨of_eq_true (encI_refs _ zs), of_eq_true (encI_refs _ zs), trivial⟩ trivial ?_
  · show [dcv 1 _ (.ar (N + 3) 0 zs.length), dcv 1 _ (.sl 1 (zs.map encI))] = _
    rw [dcv_ints]
    rfl
    simp (maxSteps := 4000000) only [method_specs_simp, seval, hk, hk2, bne_self_eq_false, Bool.not_true, hp2.len, hp2.g0, hp2.g, hp2.b0, hp2.b, hp2.v0, hp2.v, hp2.a0, hp2.a, hp2.w0, hp2.w, hp2.s0, hp2.s, List.append_assoc, List.cons_append, List.nil_append]
  simp (maxSteps := 4000000) only [method_specs_simp, seval, hk, hk2, bne_self_eq_false, Bool.not_true, hp2.len, hp2.g0, hp2.g, hp2.b0, hp2.b, hp2.v0, hp2.v, hp2.a0, hp2.a, hp2.w0, hp2.w, hp2.s0, hp2.s, List.append_assoc, List.cons_append, List.nil_append]
  refine clY.conD 1 (c_heldInt64S 1 zs.length (by decide) (by decide) (by omega)) ?_ ⟨of_eq_true (encI_refs _ _), trivial, trivial⟩ trivial ?_
  · show [dcv 1 _ (.ar (N + 2) 0 zs.length), dcv 1 _ (.int .i64 1)] = _
    rw [dcv_flat (zs := (mInts 1 zs.length).map encI) (lv := true) (sz := 1)]
    rfl
    simp (maxSteps := 4000000) only [method_specs_simp, seval, hk, hk2, bne_self_eq_false, Bool.not_true, hp2.len, hp2.g0, hp2.g, hp2.b0, hp2.b, hp2.v0, hp2.v, hp2.a0, hp2.a, hp2.w0, hp2.w, hp2.s0, hp2.s, List.append_assoc, List.cons_append, List.nil_append]
    rw [List.length_map, hmi]
  simp (maxSteps := 4000000) only [method_specs_simp, seval, hk, hk2, bne_self_eq_false, Bool.not_true, hp2.len, hp2.g0, hp2.g, hp2.b0, hp2.b, hp2.v0, hp2.v, hp2.a0, hp2.a, hp2.w0, hp2.w, hp2.s0, hp2.s, List.append_assoc, List.cons_append, List.nil_append]
theorem c_eqNil : Con P 37 [.nil, .sl 1 (([] : List Int).map encI)] (.bool true) := (c_eqInt64S [] (by decide)).weak (VLes.cons (VLe.nil 1) (VLes.same VLes.nil))
theorem c_heldNil (k : Int) (h0 : 0 ≤ k) (h1 : k < 2 ^ 58) : Con P 52 [.nil, .int .i64 k] (.int .i64 k) := by
  have h := c_heldInt64S (P := P) k 0 h0 (by omega) (by decide)
  rw [show k + ((0 : Nat) : Int) = k by omega] at h
  exact h.weak (VLes.cons (VLe.nil 1) (VLes.same VLes.nil))
theorem s_lawZ (g : Gr) (hg : GrOK g) (h46 : Con P 50 [.agg (encGr g)] (.sl 1 (([] : List Int).map encI))) (h47 : Con P 51 [.agg (encGr g)] .nil) :
    Con P 6 [.agg (encGr g)] (.bool true) := by
  refine Con.of (n := 69) (rs := [.tmp 2]) (Is.fn Try.func6) rfl (Is.call Try.call6) Try.results6 Try.ntmps6 trivial ?_
  simp (maxSteps := 4000000) only [method_specs_simp, seval]
  refine clY.con (c_szGraph g 1048576 (by decide) (by decide) hg) (by simp only [method_specs_simp]) ?_
  simp (maxSteps := 4000000) only [method_specs_simp, seval]
  refine gB_split (fun _ => trivial) (fun w1 => ?_)
  obtain ⟨q1, q2, q3⟩ := sb_yes (wG_nn g) w1
  refine clY.con (c_toGraph g hg) (by simp only [method_specs_simp]) ?_
  simp (maxSteps := 4000000) only [method_specs_simp, seval]
  refine clY.con (h46) (by simp only [method_specs_simp]) ?_
  simp (maxSteps := 4000000) only [method_specs_simp, seval]
  refine clY.newD 0 (n_toGraph g hg) (dcv_zero _ _) (by simp only [method_specs_simp]) (grV_flat 0 g) (obG_flat g) ?_
  obtain ⟨G, hG⟩ : ∃ G, G = obGb 1 g := ⟨_, rfl⟩
  obtain ⟨N, hN⟩ : ∃ N, N = g.events.length + 1 + (g.parked.length + 1) := ⟨_, rfl⟩
  have hp : Past G N := Past.mk' (by rw [hG, hN, obGb_len])
  have hA1 : ∀ L : List Ob, (G ++ L)[0]? = some (.arr true 9 (rowsEv 2 g.events)) := fun L => by rw [hG]; rfl
  have hA2 : ∀ (a : Ob) (L : List Ob), (a :: (G ++ L))[1 + (g.events.length + 1)]? = some (.arr true 9 (rowsEv (1 + (g.events.length + 1) + 1) g.parked)) := fun a L => by
    rw [hG]; exact obGb_one g a L
  simp (maxSteps := 4000000) only [method_specs_simp, seval, hp.len, hp.g0, hp.g, hp.b0, hp.b, hp.v0, hp.v, hp.a0, hp.a, hp.w0, hp.w, hp.s0, hp.s, List.append_assoc, List.cons_append, List.nil_append, obG_ren, grV, ← hG, hA1, hA2]
  have hL : ∀ (a : Ob) (L : List Ob), LiesG (a :: (G ++ L)) 1 g := fun a L => LiesG.mk (A := [a]) rfl (by rw [hG]; rfl)
  refine clY.conD 3 h47 ?_ ⟨encGr_ref1 _ g, trivial⟩ trivial ?_
  · show [dcv 3 _ (.agg (grV 1 g))] = _
    rw [(hL _ _).dcv]
  simp (maxSteps := 4000000) only [method_specs_simp, seval, hp.len, hp.g0, hp.g, hp.b0, hp.b, hp.v0, hp.v, hp.a0, hp.a, hp.w0, hp.w, hp.s0, hp.s, List.append_assoc, List.cons_append, List.nil_append]
  refine clY.con (c_eqNil) (by simp only [method_specs_simp, hp.len, hp.g0, hp.g, hp.b0, hp.b, hp.v0, hp.v, hp.a0, hp.a, hp.w0, hp.w, hp.s0, hp.s, List.append_assoc, List.cons_append, List.nil_append]) ?_
  simp (maxSteps := 4000000) only [method_specs_simp, seval, hp.len, hp.g0, hp.g, hp.b0, hp.b, hp.v0, hp.v, hp.a0, hp.a, hp.w0, hp.w, hp.s0, hp.s, List.append_assoc, List.cons_append, List.nil_append]
  refine ⟨by kernel_rfl, ?_⟩
  refine clY.con (c_toGraph g hg) (by simp only [method_specs_simp, hp.len, hp.g0, hp.g, hp.b0, hp.b, hp.v0, hp.v, hp.a0, hp.a, hp.w0, hp.w, hp.s0, hp.s, List.append_assoc, List.cons_append, List.nil_append]) ?_
  simp (maxSteps := 4000000) only [method_specs_simp, seval, hp.len, hp.g0, hp.g, hp.b0, hp.b, hp.v0, hp.v, hp.a0, hp.a, hp.w0, hp.w, hp.s0, hp.s, List.append_assoc, List.cons_append, List.nil_append]
  refine clY.conD 3 (c_eqGraph g hg) ?_ ⟨encGr_ref1 _ g, encGr_ref1 _ g, trivial⟩ trivial ?_
  · show [dcv 3 _ (.agg (grV 1 g)), dcv 3 _ (.agg (encGr g))] = _
    rw [(hL _ _).dcv, dcv_encG]
  simp (maxSteps := 4000000) only [method_specs_simp, seval, hp.len, hp.g0, hp.g, hp.b0, hp.b, hp.v0, hp.v, hp.a0, hp.a, hp.w0, hp.w, hp.s0, hp.s, List.append_assoc, List.cons_append, List.nil_append, Bool.not_true]
  have b1 := wM_le g.events
  have b2 := wM_le g.parked
  have b3 := wM_nn g.events
  have b4 := wM_nn g.parked
  have hwG : wG g = (g.events.length + wEs g.events) + (g.parked.length + wEs g.parked) := rfl
  have hk : decide (1 + (wM g.events + wM g.parked) < 0) = false := decide_eq_false (by omega)
  refine clY.segG1 hG (n_markGraph g 1 (by decide) (by decide) hg (by omega)) (mGr_len 1 g) trivial ⟨trivial, trivial⟩ (fun m => by simp only [convs, conv]) ?_
  obtain ⟨G2, hG2⟩ : ∃ G2, G2 = obGb 1 (mGr 1 g) := ⟨_, rfl⟩
  have hp2 : Past G2 N := Past.mk' (by rw [hG2, hN, obGb_len]; simp only [mGr, mEvs_len])
  rw [← hG2]
  simp (maxSteps := 4000000) only [method_specs_simp, seval, hk, bne_self_eq_false, Bool.not_true, hp2.len, hp2.g0, hp2.g, hp2.b0, hp2.b, hp2.v0, hp2.v, hp2.a0, hp2.a, hp2.w0, hp2.w, hp2.s0, hp2.s, List.append_assoc, List.cons_append, List.nil_append]
  refine clY.con (c_eqNil) (by simp only [method_specs_simp, hk, bne_self_eq_false, Bool.not_true, hp2.len, hp2.g0, hp2.g, hp2.b0, hp2.b, hp2.v0, hp2.v, hp2.a0, hp2.a, hp2.w0, hp2.w, hp2.s0, hp2.s, List.append_assoc, List.cons_append, List.nil_append]) ?_
  simp (maxSteps := 4000000) only [method_specs_simp, seval, hk, bne_self_eq_false, Bool.not_true, hp2.len, hp2.g0, hp2.g, hp2.b0, hp2.b, hp2.v0, hp2.v, hp2.a0, hp2.a, hp2.w0, hp2.w, hp2.s0, hp2.s, List.append_assoc, List.cons_append, List.nil_append]
  refine clY.con (c_markNil 1) (by simp only [method_specs_simp, hk, bne_self_eq_false, Bool.not_true, hp2.len, hp2.g0, hp2.g, hp2.b0, hp2.b, hp2.v0, hp2.v, hp2.a0, hp2.a, hp2.w0, hp2.w, hp2.s0, hp2.s, List.append_assoc, List.cons_append, List.nil_append]) ?_
  simp (maxSteps := 4000000) only [method_specs_simp, seval, hk, bne_self_eq_false, Bool.not_true, hp2.len, hp2.g0, hp2.g, hp2.b0, hp2.b, hp2.v0, hp2.v, hp2.a0, hp2.a, hp2.w0, hp2.w, hp2.s0, hp2.s, List.append_assoc, List.cons_append, List.nil_append]
  refine clY.con (c_heldNil 1 (by decide) (by decide)) (by simp only [method_specs_simp, hk, bne_self_eq_false, Bool.not_true, hp2.len, hp2.g0, hp2.g, hp2.b0, hp2.b, hp2.v0, hp2.v, hp2.a0, hp2.a, hp2.w0, hp2.w, hp2.s0, hp2.s, List.append_assoc, List.cons_append, List.nil_append]) ?_
  simp (maxSteps := 4000000) only [method_specs_simp, seval, hk, bne_self_eq_false, Bool.not_true, hp2.len, hp2.g0, hp2.g, hp2.b0, hp2.b, hp2.v0, hp2.v, hp2.a0, hp2.a, hp2.w0, hp2.w, hp2.s0, hp2.s, List.append_assoc, List.cons_append, List.nil_append]
  refine clY.con (c_toGraph g hg) (by simp only [method_specs_simp, hk, bne_self_eq_false, Bool.not_true, hp2.len, hp2.g0, hp2.g, hp2.b0, hp2.b, hp2.v0, hp2.v, hp2.a0, hp2.a, hp2.w0, hp2.w, hp2.s0, hp2.s, List.append_assoc, List.cons_append, List.nil_append]) ?_
  simp (maxSteps := 4000000) only [method_specs_simp, seval, hk, bne_self_eq_false, Bool.not_true, hp2.len, hp2.g0, hp2.g, hp2.b0, hp2.b, hp2.v0, hp2.v, hp2.a0, hp2.a, hp2.w0, hp2.w, hp2.s0, hp2.s, List.append_assoc, List.cons_append, List.nil_append]
  refine clY.con (h47) (by simp only [method_specs_simp, hk, bne_self_eq_false, Bool.not_true, hp2.len, hp2.g0, hp2.g, hp2.b0, hp2.b, hp2.v0, hp2.v, hp2.a0, hp2.a, hp2.w0, hp2.w, hp2.s0, hp2.s, List.append_assoc, List.cons_append, List.nil_append]) ?_
  simp (maxSteps := 4000000) only [method_specs_simp, seval, hk, bne_self_eq_false, Bool.not_true, hp2.len, hp2.g0, hp2.g, hp2.b0, hp2.b, hp2.v0, hp2.v, hp2.a0, hp2.a, hp2.w0, hp2.w, hp2.s0, hp2.s, List.append_assoc, List.cons_append, List.nil_append]
  refine clY.con (c_eqNil) (by simp only [method_specs_simp, hk, bne_self_eq_false, Bool.not_true, hp2.len, hp2.g0, hp2.g, hp2.b0, hp2.b, hp2.v0, hp2.v, hp2.a0, hp2.a, hp2.w0, hp2.w, hp2.s0, hp2.s, List.append_assoc, List.cons_append, List.nil_append]) ?_
  simp (maxSteps := 4000000) only [method_specs_simp, seval, hk, bne_self_eq_false, Bool.not_true, hp2.len, hp2.g0, hp2.g, hp2.b0, hp2.b, hp2.v0, hp2.v, hp2.a0, hp2.a, hp2.w0, hp2.w, hp2.s0, hp2.s, List.append_assoc, List.cons_append, List.nil_append]
  refine clY.con (c_heldNil 1 (by decide) (by decide)) (by simp only [method_specs_simp, hk, bne_self_eq_false, Bool.not_true, hp2.len, hp2.g0, hp2.g, hp2.b0, hp2.b, hp2.v0, hp2.v, hp2.a0, hp2.a, hp2.w0, hp2.w, hp2.s0, hp2.s, List.append_assoc, List.cons_append, List.nil_append]) ?_
  simp (maxSteps := 4000000) only [method_specs_simp, seval, hk, bne_self_eq_false, Bool.not_true, hp2.len, hp2.g0, hp2.g, hp2.b0, hp2.b, hp2.v0, hp2.v, hp2.a0, hp2.a, hp2.w0, hp2.w, hp2.s0, hp2.s, List.append_assoc, List.cons_append, List.nil_append]
theorem c_FnExactSortOf (g : Gr) (hg : GrOK g) : Con P 6 [.agg (encGr g)] (.bool true) := by
  have h1 := hg.1.1
  cases hr : Gm.grRight g with
  | true => exact s_law g _ hg (by rw [orderE_len]; omega) (c_sSortOf g hg hr) (n_SortOf g hg hr)
  | false => exact s_lawZ g hg (c_sSortOfZ g hg hr) (c_SortOfZ g hg hr)
end
end Go.Proofs.Ytkcllejnmpnjfaa
