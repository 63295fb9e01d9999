/- One event of a graph, handed back as a copy. No conditions but lengths. -/
import Derived.Test.YtkcllejnmpnjfaaG11
import Derived.Test.YtkcllejnmpnjfaaG6
import Derived.Test.YtkcllejnmpnjfaaG8
namespace Go.Proofs.Ytkcllejnmpnjfaa
open Go.Pm
open Go.Gm (Ev Gr)
set_option maxRecDepth 10000
set_option linter.unusedSimpArgs false
set_option linter.unusedVariables false
@[method_specs_simp] theorem encGr_take (g : Gr) : List.take 3 (encGr g) = encGr g := nr rfl
@[method_specs_simp] theorem encGr_three (g : Gr) : (3 ≤ (encGr g).length) = True := eq_true (Nat.le_refl 3)
@[method_specs_simp] theorem encEv_take (e : Ev) : List.take 9 (encEv e) = encEv e := nr rfl
@[method_specs_simp] theorem encEv_nine (e : Ev) : (9 ≤ (encEv e).length) = True := eq_true (Nat.le_refl 9)
theorem VLe.zEv : VLes zEv (encEv zE) := VLes.same (VLes.same (VLes.same (VLes.same (VLes.same (VLes.same (VLes.same (VLes.cons (VLe.nil 1) (VLes.same VLes.nil))))))))
theorem Con.weakR {P : Program} {f : FuncId} {xs : List V} {r r' : V} (h : Con P f xs r) (hl : VLe r r') (hp : Ref (fun _ => False) r') : Con P f xs r' := ⟨h.ok, hp, fun w Zo us hz hu => (h.c w Zo us hz hu).mono fun e w' ⟨v, β, e1, e2, e3, e4, e5⟩ => ⟨v, β, e1, e2, e3, hl _ _ e4, e5⟩⟩
section
variable {P : Program} [Is P]
theorem n_cloneI (xs : List Int) (hx : xs.length * 8 ≤ 2 ^ 47) : NCon P 199 [.sl 1 (xs.map encI)] (.ar 0 0 xs.length) [.arr true 1 (xs.map encI)] := by
  refine LCon.new (LCon.of (n := 8) (rs := [.tmp 2]) (Is.fn Try.func199) rfl (Is.call Try.call199) Try.results199 Try.ntmps199 ?_) (pure1 (pure_ints _ _))
  simp (maxSteps := 4000000) only [method_specs_simp, seval]
  refine nilY.eql (fun h => ?_) ?_
  · rw [List.map_eq_nil_iff] at h
    subst h
    simp (maxSteps := 4000000) only [method_specs_simp, seval]
    exact LResY.nil (by decide)
  · simp (maxSteps := 4000000) only [method_specs_simp, seval]
    refine ⟨by omega, by omega, ?_⟩
    refine LResY.mk [1] ?_
    simp only [mvcgen_simp, method_specs_simp, seval]
theorem n_copied (e : Ev) (he : EvOK e) : NCon P 136 [.agg (encEv e)] (.agg (rowEv 0 e)) [obI e] := by
  have he2 := he.2
  refine LCon.new (LCon.of (n := 8) (rs := [.cell 2 67]) (Is.fn Try.func136) rfl (Is.call Try.call136) Try.results136 Try.ntmps136 ?_) (pure1 (pure_ints _ _))
  simp (maxSteps := 4000000) only [method_specs_simp, seval]
  simp (maxSteps := 4000000) only [method_specs_simp, seval, encEv]
  refine clY.new (n_cloneI e.prev (by omega)) (by simp only [method_specs_simp]) ?_
  simp (maxSteps := 4000000) only [method_specs_simp, seval]
  refine LResY.mk [2] ?_
  simp only [mvcgen_simp, method_specs_simp, seval, rowEv, obI]
theorem c_l02Copy (e : Ev) (he : EvOK e) : Con P 182 [.agg (encEv e)] (.agg (encEv e)) := by
  have he2 := he.2
  refine Con.of (n := 9) (rs := [.cell 2 67]) (Is.fn Try.func182) rfl (Is.call Try.call182) Try.results182 Try.ntmps182 (encEv_ref1 _ e) ?_
  simp (maxSteps := 4000000) only [method_specs_simp, seval]
  simp (maxSteps := 4000000) only [method_specs_simp, seval, encEv]
  exact ⟨by omega, by omega⟩
theorem zE_ok : EvOK zE := ⟨by decide, by decide⟩
theorem at_ok {g : Gr} (hg : GrOK g) (id : Int) : EvOK ((atE g.events id).getD zE) := by
  cases h : atE g.events id with
  | none => exact zE_ok
  | some e => exact hg.1.2 e (List.mem_of_find?_eq_some h)
theorem c_l03Event (g : Gr) (id : Int) (hg : GrOK g) : Con P 132 [.agg (encGr g), .int .i64 id] (.agg (encEv ((atE g.events id).getD zE))) := by
  have hg1 := hg.1.1
  cases hh : Gm.hasId g.events id with
  | false =>
    rw [atE_none hh]
    refine Con.weakR (r := .agg zEv) ?_ (VLe.agg VLe.zEv) (encEv_ref1 _ zE)
    have ha : atI g.events id = -1 := by unfold atI; rw [hh]; rfl
    refine Con.of (n := 19) (rs := [.cell 4 67]) (Is.fn Try.func132) rfl (Is.call Try.call132) Try.results132 Try.ntmps132 (by simp only [zEv, method_specs_simp]) ?_
    simp (maxSteps := 4000000) only [method_specs_simp, seval, encGr]
    refine clY.con (c_l03At g.events id (by omega)) (by simp only [method_specs_simp, encGr]) ?_
    simp (maxSteps := 4000000) only [method_specs_simp, seval, encGr, ha, zEv]
  | true =>
    obtain ⟨e, h1, h2⟩ := Gm.fid_get hh
    have ha : atI g.events id = ((Gm.fidE g.events id : Nat) : Int) := by unfold atI; rw [hh]; rfl
    have hn : decide (((Gm.fidE g.events id : Nat) : Int) < 0) = false := decide_eq_false (by omega)
    have hlt := Gm.fid_lt hh
    rw [← fid_at hh, h1]
    refine Con.of (n := 19) (rs := [.cell 4 67]) (Is.fn Try.func132) rfl (Is.call Try.call132) Try.results132 Try.ntmps132 (encEv_ref1 _ e) ?_
    simp (maxSteps := 4000000) only [method_specs_simp, seval, encGr]
    refine clY.con (c_l03At g.events id (by omega)) (by simp only [method_specs_simp, encGr]) ?_
    simp (maxSteps := 4000000) only [method_specs_simp, seval, encGr, ha, hn]
    simp (maxSteps := 4000000) only [method_specs_simp, seval, encGr, h1]
    refine ⟨by omega, by omega, ?_⟩
    refine clY.con (c_l02Copy e (hg.1.2 e (List.mem_of_getElem? h1))) (by simp only [method_specs_simp, encGr]) ?_
    simp (maxSteps := 4000000) only [method_specs_simp, seval, encGr, encEv, Option.getD_some]
theorem c_sEventAt (g : Gr) (id : Int) (hg : GrOK g) (hr : Gm.grRight g = true) : Con P 42 [.agg (encGr g), .int .i64 id] (.agg (encEv ((atE g.events id).getD zE))) := by
  refine Con.of (n := 12) (rs := [.cell 4 67]) (Is.fn Try.func42) rfl (Is.call Try.call42) Try.results42 Try.ntmps42 (encEv_ref1 _ _) ?_
  simp (maxSteps := 4000000) only [method_specs_simp, seval]
  refine clY.con (c_sGraphRight g hg) (by simp only [method_specs_simp]) ?_
  simp (maxSteps := 4000000) only [method_specs_simp, seval, hr]
  refine clY.con (c_l03Event g id hg) (by simp only [method_specs_simp]) ?_
  simp (maxSteps := 4000000) only [method_specs_simp, seval, encEv]
theorem c_sEventAtZ (g : Gr) (id : Int) (hg : GrOK g) (hr : Gm.grRight g = false) : Con P 42 [.agg (encGr g), .int .i64 id] (.agg zEv) := by
  refine Con.of (n := 12) (rs := [.cell 4 67]) (Is.fn Try.func42) rfl (Is.call Try.call42) Try.results42 Try.ntmps42 (by simp only [zEv, method_specs_simp]) ?_
  simp (maxSteps := 4000000) only [method_specs_simp, seval]
  refine clY.con (c_sGraphRight g hg) (by simp only [method_specs_simp]) ?_
  simp (maxSteps := 4000000) only [method_specs_simp, seval, hr]
  rfl
theorem n_EventAt (g : Gr) (id : Int) (hg : GrOK g) (hr : Gm.grRight g = true) : LCon P 44 [.agg (encGr g), .int .i64 id] [] (.agg (rowEv 0 ((atE g.events id).getD zE))) [obI ((atE g.events id).getD zE)] := by
  have hs := (grRight_srt hr).1
  have he := at_ok hg id
  refine LCon.of (n := 19) (rs := [.cell 4 67]) (Is.fn Try.func44) rfl (Is.call Try.call44) Try.results44 Try.ntmps44 ?_
  simp (maxSteps := 4000000) only [method_specs_simp, seval]
  refine clY.con (c_GraphRight g hg) (by simp only [method_specs_simp]) ?_
  simp (maxSteps := 4000000) only [method_specs_simp, seval, hr]
  refine clY.con (c_at g id hg.1.1 hs) (by simp only [method_specs_simp]) ?_
  simp (maxSteps := 4000000) only [method_specs_simp, seval]
  generalize (atE g.events id).getD zE = e at he
  refine ⟨by kernel_rfl, ?_⟩
  simp (maxSteps := 4000000) only [method_specs_simp, seval, encEv]
  refine clY.new (n_copied e he) (by simp only [method_specs_simp, encEv]) ?_
  simp (maxSteps := 4000000) only [method_specs_simp, seval, rowEv, obI]
  refine LResY.mk [3] ?_
  simp only [mvcgen_simp, method_specs_simp, seval, rowEv, obI]
theorem c_EventAtZ (g : Gr) (id : Int) (hg : GrOK g) (hr : Gm.grRight g = false) : Con P 44 [.agg (encGr g), .int .i64 id] (.agg zEv) := by
  refine Con.of (n := 19) (rs := [.cell 4 67]) (Is.fn Try.func44) rfl (Is.call Try.call44) Try.results44 Try.ntmps44 (by simp only [zEv, method_specs_simp]) ?_
  simp (maxSteps := 4000000) only [method_specs_simp, seval]
  refine clY.con (c_GraphRight g hg) (by simp only [method_specs_simp]) ?_
  simp (maxSteps := 4000000) only [method_specs_simp, seval, hr]
  rfl
end
end Go.Proofs.Ytkcllejnmpnjfaa
