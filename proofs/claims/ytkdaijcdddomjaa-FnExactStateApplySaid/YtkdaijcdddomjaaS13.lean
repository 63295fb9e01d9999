/- The given statement FnExactStateApplySaid: for every input the law returns true, and its arguments read afterwards as they read before. No conditions. -/
import Derived.Test.YtkdaijcdddomjaaR3
import Derived.Test.YtkdaijcdddomjaaS12
namespace Go.Proofs.Ytkdaijcdddomjaa
open Go.Pm
open Go.ChangeShapes Go.WideShapes Go.ChangeAt Go.RowKit
set_option linter.unusedVariables false
set_option maxRecDepth 100000
namespace stateApply
theorem own : ownKnob Try.prog.godebug = none := by kernel_rfl
theorem laidOut : laidOutB Try.prog = true := by kernel_rfl
theorem lifted (os : Os) (started : os.Started) (H : Type) (enc : TypeId × Value → H) :
    ReturnsInHanded {} Try.checked os 13 .any (Rows.fnExactStateApplySpec.pre6 enc Try.prog Try.f13 Rows.fnExactStateApplyRow.domain false) (Rows.fnExactStateApplySpec.post enc Try.prog Try.f13 false true false false) := by
  refine returnsInHanded_of_change_sized (C := Try.checked) own started (by kernel_rfl) Try.func13
    (ChangeSpec.witness6 (enc := enc) (C := Try.checked) false ⟨#[], #[.slice none 0 0, .slice none 0 0], []⟩ 8 (by kernel_rfl) (by kernel_rfl) (by kernel_rfl) (by kernel_rfl)) ?_
  intro W base args ds gs before hval0 hW hcnd hsz0 _
  have hsz : (DataW.weightsEach Try.prog (Try.f13.params.toList ++ Rows.fnExactStateApplySpec.plain.varTypes Try.prog) (ds ++ gs)).all (· ≤ reachBytes) = true := hsz0
  have hval : ∀ (j : Nat) t v, Try.f13.params[j]? = some t → args[j]? = some v → Value.okWide Try.prog W .any base t v := hval0
  have hW' := hW
  obtain ⟨p, q, hA0, hV, rfl, hfz, hnd⟩ := hW
  have hA : DataW.TrodAll enc Try.prog W 0 (fun _ => true) true Try.f13.params.toList args.toList ds p := hA0
  rw [Try.params13] at hA hval hsz
  obtain ⟨v0, vs0, d0, ds0, p0, q0, hargs, rfl, rfl, h0, r0⟩ := trodAll_cons hA
  obtain ⟨v1, vs1, d1, ds1, p1, q1, rfl, rfl, rfl, h1, r1⟩ := trodAll_cons r0
  obtain ⟨rfl, rfl, rfl⟩ := trodAll_nil r1
  obtain rfl : args = #[v0, v1] := by cases args; simp_all
  obtain ⟨rfl, rfl⟩ := trodVars_none hV
  have hv0 := hval 0 70 v0 rfl rfl
  have k0 := h0
  have lt0 : ∀ x ∈ p0, x.block < W.heap.size := by obtain ⟨m, hm⟩ := k0; exact DataW.trod_lt m _ _ _ hm
  obtain ⟨A0, m0, c0, rfl⟩ : ∃ A m c, v0 = .slice A m c := by
    unfold Value.okWide at hv0
    rw [Try.underlying70] at hv0
    cases v0 <;> first | exact hv0.elim | exact ⟨_, _, _, rfl⟩
  obtain ⟨fuel0, hf0⟩ := h0
  obtain ⟨xs0, hxs0, hin0⟩ := read_sound tEnts 70 fuel0 [.slice A0 m0 c0] _ ok_ents hf0 (fun n hn => by
    have := List.all_eq_true.1 hsz n (DataW.weights_mem_each (j := 0) rfl rfl n hn)
    simpa using this)
  obtain ⟨ns0, rfl, hlen0⟩ := in_ents hin0
  obtain ⟨_, _, hq0, hr0, _⟩ := hxs0
  injection hq0 with hq0 _
  subst hq0
  have hv1 := hval 1 70 v1 rfl rfl
  have k1 := h1
  have lt1 : ∀ x ∈ p1, x.block < W.heap.size := by obtain ⟨m, hm⟩ := k1; exact DataW.trod_lt m _ _ _ hm
  obtain ⟨A1, m1, c1, rfl⟩ : ∃ A m c, v1 = .slice A m c := by
    unfold Value.okWide at hv1
    rw [Try.underlying70] at hv1
    cases v1 <;> first | exact hv1.elim | exact ⟨_, _, _, rfl⟩
  obtain ⟨fuel1, hf1⟩ := h1
  obtain ⟨xs1, hxs1, hin1⟩ := read_sound tEnts 70 fuel1 [.slice A1 m1 c1] _ ok_ents hf1 (fun n hn => by
    have := List.all_eq_true.1 hsz n (DataW.weights_mem_each (j := 1) rfl rfl n hn)
    simpa using this)
  obtain ⟨ns1, rfl, hlen1⟩ := in_ents hin1
  obtain ⟨_, _, hq1, hr1, _⟩ := hxs1
  injection hq1 with hq1 _
  subst hq1
  have hc := (c13 (P := Try.prog) ns0 ns1 (by have : reachBytes < 2 ^ 47 := reachBytes_lt; omega) (by have : reachBytes < 2 ^ 47 := reachBytes_lt; omega)).c W (fun _ => False) [.slice A0 m0 c0, .slice A1 m1 c1] (fun _ h => h.elim) ⟨_, _, rfl, hr0, ⟨_, _, rfl, hr1, rfl⟩⟩
  refine hc.mono fun e W' ⟨v, β, he, hG, _, hr, _⟩ => ?_
  subst he
  have hr : v = .bool true := hr
  subst hr
  have bel : Below W.heap.size W W' := ⟨hG.os, hG.tape, hG.output, hG.size, fun k hk => hG.block k hk⟩
  exact ⟨_, rfl, _, _, _, [], _, [], hW', trodAll_mk1 (shut_bool Try.underlying4 _), trodAll_cons_mk (Below.trod laidOut (by kernel_rfl) (of_decide_eq_true (by kernel_rfl)) k0 bel lt0) (trodAll_cons_mk (Below.trod laidOut (by kernel_rfl) (of_decide_eq_true (by kernel_rfl)) k1 bel lt1) trodAll_mk0), rfl, bel.frame _, fun h => by cases h⟩
theorem over : Rows.fnExactStateApplyRow.holds Try.pinned (OpenSpec.ofChange Rows.fnExactStateApplySpec) :=
  OpenClaim.holds_of_wide 13 Try.f13 rfl rfl rfl rfl rfl rfl rfl ⟨rfl, rfl, rfl, rfl, rfl⟩ rfl rfl rfl rfl rfl (by kernel_rfl) Try.func13 (by kernel_rfl)
    (of_decide_eq_true (by kernel_rfl)) (by unfold Func.isWrapper; first | (rw [if_pos (by decide +kernel)]; kernel_rfl) | (rw [if_neg (by decide +kernel)]; exact ⟨rfl, rfl⟩))
    (fun os started H enc _ => lifted os started H enc)
end stateApply
theorem fnExactStateApply_holds : Rows.FnExactStateApplySaid := stateApply.over
#print axioms fnExactStateApply_holds
end Go.Proofs.Ytkdaijcdddomjaa
