/- The given statement FnExactInboxAckSaid: for every input the law returns true, and its arguments read afterwards as they read before. No conditions. -/
import Derived.Test.YtkdaijcdddomjaaR1
import Derived.Test.YtkdaijcdddomjaaI20
namespace Go.Proofs.Ytkdaijcdddomjaa
open Go.Pm
open Go.ChangeShapes Go.WideShapes Go.ChangeAt Go.RowKit
set_option linter.unusedVariables false
set_option maxRecDepth 100000
namespace inboxAck
theorem own : ownKnob Try.prog.godebug = none := by kernel_rfl
theorem laidOut : laidOutB Try.prog = true := by kernel_rfl
theorem lifted (os : Os) (started : os.Started) (H : Type) (enc : TypeId × Value → H) :
    ReturnsInHanded {} Try.checked os 9 .any (Rows.fnExactInboxAckSpec.pre6 enc Try.prog Try.f9 Rows.fnExactInboxAckRow.domain false) (Rows.fnExactInboxAckSpec.post enc Try.prog Try.f9 false true false false) := by
  refine returnsInHanded_of_change_sized (C := Try.checked) own started (by kernel_rfl) Try.func9
    (ChangeSpec.witness6 (enc := enc) (C := Try.checked) false ⟨#[], #[.agg #[.int .i64 0, .slice none 0 0], .int .i64 0], []⟩ 8 (by kernel_rfl) (by kernel_rfl) (by kernel_rfl) (by kernel_rfl)) ?_
  intro W base args ds gs before hval0 hW hcnd hsz0 _
  have hsz : (DataW.weightsEach Try.prog (Try.f9.params.toList ++ Rows.fnExactInboxAckSpec.plain.varTypes Try.prog) (ds ++ gs)).all (· ≤ reachBytes) = true := hsz0
  have hval : ∀ (j : Nat) t v, Try.f9.params[j]? = some t → args[j]? = some v → Value.okWide Try.prog W .any base t v := hval0
  have hW' := hW
  obtain ⟨p, q, hA0, hV, rfl, hfz, hnd⟩ := hW
  have hA : DataW.TrodAll enc Try.prog W 0 (fun _ => true) true Try.f9.params.toList args.toList ds p := hA0
  rw [Try.params9] at hA hval hsz
  obtain ⟨v0, vs0, d0, ds0, p0, q0, hargs, rfl, rfl, h0, r0⟩ := trodAll_cons hA
  obtain ⟨v1, vs1, d1, ds1, p1, q1, rfl, rfl, rfl, h1, r1⟩ := trodAll_cons r0
  obtain ⟨rfl, rfl, rfl⟩ := trodAll_nil r1
  obtain rfl : args = #[v0, v1] := by cases args; simp_all
  obtain ⟨rfl, rfl⟩ := trodVars_none hV
  have hv0 := hval 0 24 v0 rfl rfl
  have k0 := h0
  have lt0 : ∀ x ∈ p0, x.block < W.heap.size := by obtain ⟨m, hm⟩ := k0; exact DataW.trod_lt m _ _ _ hm
  obtain ⟨cs0, rfl⟩ : ∃ cs0, v0 = .agg cs0 := by
    unfold Value.okWide at hv0
    rw [Try.underlying24] at hv0
    obtain ⟨cs, h, _⟩ := hv0
    exact ⟨cs, h⟩
  obtain ⟨fuel0, hf0⟩ := h0
  obtain ⟨xs0, hxs0, hin0⟩ := read_sound tInbox 24 fuel0 cs0.toList _ ok_inbox hf0 (fun n hn => by
    have := List.all_eq_true.1 hsz n (DataW.weights_mem_each (j := 0) rfl rfl n hn)
    simpa using this)
  obtain ⟨n0, ns0, rfl, hlen0⟩ := in_inbox hin0
  have hv1 := hval 1 2 v1 rfl rfl
  have k1 := h1
  have lt1 : ∀ x ∈ p1, x.block < W.heap.size := by obtain ⟨m, hm⟩ := k1; exact DataW.trod_lt m _ _ _ hm
  obtain ⟨z1, rfl⟩ : ∃ z1, v1 = .int .i64 z1 := by
    unfold Value.okWide at hv1
    rw [Try.underlying2] at hv1
    cases v1 <;> first | exact hv1.elim | exact ⟨_, by rw [hv1.1]⟩
  have hc := (c9 (P := Try.prog) n0 z1 ns0 (by have : reachBytes < 2 ^ 47 := reachBytes_lt; omega)).c W (fun _ => False) [.agg cs0, .int .i64 z1] (fun _ h => h.elim) ⟨_, _, rfl, ⟨cs0, rfl, hxs0⟩, ⟨_, _, rfl, rfl, rfl⟩⟩
  refine hc.mono fun e W' ⟨v, β, he, hG, _, hr, _⟩ => ?_
  subst he
  have hr : v = .bool true := hr
  subst hr
  have bel : Below W.heap.size W W' := ⟨hG.os, hG.tape, hG.output, hG.size, fun k hk => hG.block k hk⟩
  exact ⟨_, rfl, _, _, _, [], _, [], hW', trodAll_mk1 (shut_bool Try.underlying4 _), trodAll_cons_mk (Below.trod laidOut (by kernel_rfl) (of_decide_eq_true (by kernel_rfl)) k0 bel lt0) (trodAll_cons_mk (Below.trod laidOut (by kernel_rfl) (of_decide_eq_true (by kernel_rfl)) k1 bel lt1) trodAll_mk0), rfl, bel.frame _, fun h => by cases h⟩
theorem over : Rows.fnExactInboxAckRow.holds Try.pinned (OpenSpec.ofChange Rows.fnExactInboxAckSpec) :=
  OpenClaim.holds_of_wide 9 Try.f9 rfl rfl rfl rfl rfl rfl rfl ⟨rfl, rfl, rfl, rfl, rfl⟩ rfl rfl rfl rfl rfl (by kernel_rfl) Try.func9 (by kernel_rfl)
    (of_decide_eq_true (by kernel_rfl)) (by unfold Func.isWrapper; first | (rw [if_pos (by decide +kernel)]; kernel_rfl) | (rw [if_neg (by decide +kernel)]; exact ⟨rfl, rfl⟩))
    (fun os started H enc _ => lifted os started H enc)
end inboxAck
theorem fnExactInboxAck_holds : Rows.FnExactInboxAckSaid := inboxAck.over
#print axioms fnExactInboxAck_holds
end Go.Proofs.Ytkdaijcdddomjaa
