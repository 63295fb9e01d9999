/- The given statement FnExactResolveSaid: for every input the law returns true, and its arguments read afterwards as they read before. No conditions. -/
import Derived.Test.YtdldgbkdcpdbeaaGreatRows
import Derived.Test.YtdldgbkdcpdbeaaGreatQ6
section
namespace Go.Proofs.YtdldgbkdcpdbeaaGreat
open Go.Pm
open Go.ChangeShapes Go.WideShapes Go.ChangeAt Go.RowKit
set_option linter.unusedVariables false
set_option maxRecDepth 100000
set_option maxHeartbeats 20000000
namespace resolve
theorem lifted (os : Os) (started : os.Started) (H : Type) (enc : TypeId × Value → H) :
   ReturnsInHanded {} Tryz.checked os 6 .any (Rows.fnExactResolveSpec.pre6 enc Tryz.prog Tryz.f6 Rows.fnExactResolveRow.domain false) (Rows.fnExactResolveSpec.post enc Tryz.prog Tryz.f6 false true false false) := by
 refine returnsInHanded_of_change_sized (C := Tryz.checked) p_own started (by kernel_rfl) Tryz.func6
   (ChangeSpec.witness6 (enc := enc) (C := Tryz.checked) false ⟨#[], #[.agg #[.int .i64 0, .slice none 0 0, .slice none 0 0], .slice none 0 0], []⟩ 8 (by kernel_rfl) (by kernel_rfl) (by kernel_rfl) (by kernel_rfl)) ?_
 intro W base args ds gs before hval0 hW hcnd hsz0 _
 have hsz : (DataW.weightsEach Tryz.prog (Tryz.f6.params.toList ++ Rows.fnExactResolveSpec.plain.varTypes Tryz.prog) (ds ++ gs)).all (· ≤ reachBytes) = true := hsz0
 have hval : ∀ (j : Nat) t v, Tryz.f6.params[j]? = some t → args[j]? = some v → Value.okWide Tryz.prog W .any base t v := hval0
 have hW' := hW
 obtain ⟨p, q, hA0, hV, rfl, hfz, hnd⟩ := hW
 have hA : DataW.TrodAll enc Tryz.prog W 0 (fun _ => true) true Tryz.f6.params.toList args.toList ds p := hA0
 rw [Tryz.params6] at hA hval hsz
 obtain ⟨v0, vs0, d0, ds0, p0, q0, hargs, rfl, rfl, h0, r0⟩ := trodAll_cons hA
 obtain ⟨v1, vs1, d1, ds1, p1, q1, rfl, rfl, rfl, h1, r1⟩ := trodAll_cons r0
 obtain ⟨rfl, rfl, rfl⟩ := trodAll_nil r1
 obtain rfl : args = #[v0, v1] := by cases args; simp_all
 obtain ⟨rfl, rfl⟩ := trodVars_none hV
 have hv0 := hval 0 24 v0 rfl rfl
 have k0 := h0
 have lt0 : ∀ x ∈ p0, x.block < W.heap.size := by obtain ⟨m, hm⟩ := k0; exact DataW.trod_lt m _ _ _ hm
 obtain ⟨cs0, rfl⟩ : ∃ cs0, v0 = .agg cs0 := by
   unfold Value.okWide at hv0
   rw [Tryz.underlying24] at hv0
   obtain ⟨cs, h, _⟩ := hv0
   exact ⟨cs, h⟩
 obtain ⟨fuel0, hf0⟩ := h0
 obtain ⟨xs0, hxs0, hin0⟩ := read_sound tGraph 24 fuel0 cs0.toList _ ok_graph hf0 (fun n hn => by
   have := List.all_eq_true.1 hsz n (DataW.weights_mem_each (j := 0) rfl rfl n hn)
   simpa using this)
 obtain ⟨x0, rfl, h0⟩ := in_graph hin0
 have hv1 := hval 1 38 v1 rfl rfl
 have k1 := h1
 have lt1 : ∀ x ∈ p1, x.block < W.heap.size := by obtain ⟨m, hm⟩ := k1; exact DataW.trod_lt m _ _ _ hm
 obtain ⟨A1, m1, c1, rfl⟩ : ∃ A m c, v1 = .slice A m c := by
   unfold Value.okWide at hv1
   rw [Tryz.underlying38] at hv1
   cases v1 <;> first | exact hv1.elim | exact ⟨_, _, _, rfl⟩
 obtain ⟨fuel1, hf1⟩ := h1
 obtain ⟨xs1, hxs1, hin1⟩ := read_sound tEntss 38 fuel1 [.slice A1 m1 c1] _ ok_entss hf1 (fun n hn => by
   have := List.all_eq_true.1 hsz n (DataW.weights_mem_each (j := 1) rfl rfl n hn)
   simpa using this)
 obtain ⟨x1, rfl, h1⟩ := in_entss hin1
 obtain ⟨_, _, hq1, hr1, _⟩ := hxs1
 injection hq1 with hq1 _
 subst hq1
 have hc := (c_FnExactResolve (P := Tryz.prog) x0 x1 h0 h1).c W (fun _ => False) [.agg cs0, .slice A1 m1 c1] (fun _ h => h.elim) ⟨_, _, rfl, ⟨cs0, rfl, hxs0⟩, ⟨_, _, rfl, hr1, rfl⟩⟩
 refine hc.mono fun e W' ⟨v, β, he, hG, _, hr, _⟩ => ?_
 subst he
 have hr : v = .bool true := hr
 subst hr
 have bel : Below W.heap.size W W' := ⟨hG.os, hG.tape, hG.output, hG.size, fun k hk => hG.block k hk⟩
 exact ⟨_, rfl, _, _, _, [], _, [], hW', trodAll_mk1 (shut_bool Tryz.underlying4 _), trodAll_cons_mk (Below.trod p_laid (by kernel_rfl) (of_decide_eq_true (by kernel_rfl)) k0 bel lt0) (trodAll_cons_mk (Below.trod p_laid (by kernel_rfl) (of_decide_eq_true (by kernel_rfl)) k1 bel lt1) trodAll_mk0), rfl, bel.frame _, fun h => by cases h⟩
theorem z1 : (Rows.fnExactResolveRow.inPlace == Tryz.prog.inPlace 6) = true := by kernel_rfl
theorem z2 : (Rows.fnExactResolveRow.unfollowed == Tryz.prog.unfollowed 6) = true := by kernel_rfl
theorem z3 : (Rows.fnExactResolveRow.recurses == Tryz.prog.recurses 6) = true := by kernel_rfl
theorem z4 : (Rows.fnExactResolveRow.named == Tryz.prog.varsNamed 6) = true := by kernel_rfl
theorem closed : joinedFacts Tryz.prog 6 Tryz.f6 Rows.fnExactResolveSpec Rows.fnExactResolveRow = true := by
 unfold joinedFacts
 refine and_mk (and_mk (and_mk (and_mk (and_mk (and_mk (and_mk (and_mk (and_mk (and_mk (and_mk (and_mk (and_mk (and_mk (and_mk (and_mk (and_mk (and_mk (and_mk (and_mk (and_mk (and_mk (and_mk (and_mk (and_mk (and_mk (and_mk (and_mk (and_mk (and_mk (and_mk ?_ p_laid) p_maps) ?_) ?_) ?_) p_stops) ?_) p_knobs) z1) z2) z3) z4) ?_) ?_) ?_) ?_) ?_) ?_) ?_) ?_) ?_) p_keys) ?_) p_heard) p_enter) ?_) ?_) ?_) ?_) ?_) ?_
 all_goals as_aux_lemma => kernel_rfl
theorem instanced : Tryz.f6.isInstance Tryz.prog Rows.fnExactResolveRow.origin Rows.fnExactResolveRow.targs := of_decide_eq_true (by kernel_rfl)
theorem wrapped : Tryz.f6.isWrapper Tryz.prog Rows.fnExactResolveRow.wrapper Rows.fnExactResolveRow.mainSum := by unfold Func.isWrapper; first | (rw [if_pos (by decide +kernel)]; kernel_rfl) | (rw [if_neg (by decide +kernel)]; exact ⟨rfl, rfl⟩)
theorem named : Tryz.pinned.checked.prog.funcNamed Rows.fnExactResolveRow.func = some 6 := by kernel_rfl
theorem over : Rows.fnExactResolveRow.holds Tryz.pinned (OpenSpec.ofChange Rows.fnExactResolveSpec) :=
 OpenClaim.holds_of_wide 6 Tryz.f6 rfl rfl rfl rfl rfl rfl rfl ⟨rfl, rfl, rfl, rfl, rfl⟩ rfl rfl rfl rfl rfl named Tryz.func6 closed instanced wrapped
   (fun os started H enc _ => lifted os started H enc)
end resolve
theorem fnExactResolve_holds : Rows.FnExactResolveSaid := resolve.over
end Go.Proofs.YtdldgbkdcpdbeaaGreat
end
