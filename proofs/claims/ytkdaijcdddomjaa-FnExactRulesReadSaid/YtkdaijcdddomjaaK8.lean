/- The given statement FnExactRulesReadSaid: for every input the law returns true, and its arguments read afterwards as they read before. No conditions. -/
import Derived.Test.YtkdaijcdddomjaaR1
import Derived.Test.YtkdaijcdddomjaaK7
namespace Go.Proofs.Ytkdaijcdddomjaa
open Go.Pm
open Go.ChangeShapes Go.WideShapes Go.ChangeAt Go.RowKit
set_option linter.unusedVariables false
set_option maxRecDepth 100000
namespace rulesRead
theorem own : ownKnob Try.prog.godebug = none := by kernel_rfl
theorem laidOut : laidOutB Try.prog = true := by kernel_rfl
theorem lifted (os : Os) (started : os.Started) (H : Type) (enc : TypeId × Value → H) :
    ReturnsInHanded {} Try.checked os 11 .any (Rows.fnExactRulesReadSpec.pre6 enc Try.prog Try.f11 Rows.fnExactRulesReadRow.domain false) (Rows.fnExactRulesReadSpec.post enc Try.prog Try.f11 false true false false) := by
  refine returnsInHanded_of_change_sized (C := Try.checked) own started (by kernel_rfl) Try.func11
    (ChangeSpec.witness6 (enc := enc) (C := Try.checked) false ⟨#[], #[.string ByteArray.empty], []⟩ 8 (by kernel_rfl) (by kernel_rfl) (by kernel_rfl) (by kernel_rfl)) ?_
  intro W base args ds gs before hval0 hW hcnd hsz0 _
  have hsz : (DataW.weightsEach Try.prog (Try.f11.params.toList ++ Rows.fnExactRulesReadSpec.plain.varTypes Try.prog) (ds ++ gs)).all (· ≤ reachBytes) = true := hsz0
  have hval : ∀ (j : Nat) t v, Try.f11.params[j]? = some t → args[j]? = some v → Value.okWide Try.prog W .any base t v := hval0
  have hW' := hW
  obtain ⟨p, q, hA0, hV, rfl, hfz, hnd⟩ := hW
  have hA : DataW.TrodAll enc Try.prog W 0 (fun _ => true) true Try.f11.params.toList args.toList ds p := hA0
  rw [Try.params11] at hA hval hsz
  obtain ⟨v0, vs0, d0, ds0, p0, q0, hargs, rfl, rfl, h0, r0⟩ := trodAll_cons hA
  obtain ⟨rfl, rfl, rfl⟩ := trodAll_nil r0
  obtain rfl : args = #[v0] := by cases args; simp_all
  obtain ⟨rfl, rfl⟩ := trodVars_none hV
  have hv0 := hval 0 9 v0 rfl rfl
  have k0 := h0
  have lt0 : ∀ x ∈ p0, x.block < W.heap.size := by obtain ⟨m, hm⟩ := k0; exact DataW.trod_lt m _ _ _ hm
  obtain ⟨s0, rfl⟩ : ∃ s0, v0 = .string s0 := by
    unfold Value.okWide at hv0
    rw [Try.underlying9] at hv0
    cases v0 <;> first | exact hv0.elim | exact ⟨_, rfl⟩
  have hc := (c11 (P := Try.prog) s0).c W (fun _ => False) [.string s0] (fun _ h => h.elim) ⟨_, _, rfl, rfl, rfl⟩
  refine hc.mono fun e W' ⟨v, β, he, hG, _, hr, _⟩ => ?_
  subst he
  have hr : v = .bool true := hr
  subst hr
  have bel : Below W.heap.size W W' := ⟨hG.os, hG.tape, hG.output, hG.size, fun k hk => hG.block k hk⟩
  exact ⟨_, rfl, _, _, _, [], _, [], hW', trodAll_mk1 (shut_bool Try.underlying4 _), trodAll_cons_mk (Below.trod laidOut (by kernel_rfl) (of_decide_eq_true (by kernel_rfl)) k0 bel lt0) trodAll_mk0, rfl, bel.frame _, fun h => by cases h⟩
theorem over : Rows.fnExactRulesReadRow.holds Try.pinned (OpenSpec.ofChange Rows.fnExactRulesReadSpec) :=
  OpenClaim.holds_of_wide 11 Try.f11 rfl rfl rfl rfl rfl rfl rfl ⟨rfl, rfl, rfl, rfl, rfl⟩ rfl rfl rfl rfl rfl (by kernel_rfl) Try.func11 (by kernel_rfl)
    (of_decide_eq_true (by kernel_rfl)) (by unfold Func.isWrapper; first | (rw [if_pos (by decide +kernel)]; kernel_rfl) | (rw [if_neg (by decide +kernel)]; exact ⟨rfl, rfl⟩))
    (fun os started H enc _ => lifted os started H enc)
end rulesRead
theorem fnExactRulesRead_holds : Rows.FnExactRulesReadSaid := rulesRead.over
#print axioms fnExactRulesRead_holds
end Go.Proofs.Ytkdaijcdddomjaa
