/- The given statement FnExactGraphBytesSaid: for every input the law returns true, and its arguments read afterwards as they read before. No conditions. -/
import Derived.Test.YtnlobbbbgcdiiaaRows
import Derived.Test.YtnlobbbbgcdiiaaA5
section
namespace Go.Proofs.Ytnlobbbbgcdiiaa
open Go.Pm
open Go.ChangeShapes Go.WideShapes Go.ChangeAt Go.RowKit
set_option linter.unusedVariables false
set_option maxRecDepth 100000
set_option maxHeartbeats 20000000
namespace graphBytes
theorem lifted (os : Os) (started : os.Started) (H : Type) (enc : TypeId × Value → H) :
  ReturnsInHanded {} Try.checked os 5 .any (Rows.fnExactGraphBytesSpec.pre6 enc Try.prog Try.f5 Rows.fnExactGraphBytesRow.domain false) (Rows.fnExactGraphBytesSpec.post enc Try.prog Try.f5 false true false false):=by
 refine returnsInHanded_of_change_sized (C:=Try.checked) p_own started (by kernel_rfl) Try.func5
  (ChangeSpec.witness6 (enc:=enc) (C:=Try.checked) false ⟨#[],#[.agg #[.int .i64 0,.slice none 0 0,.slice none 0 0]],[]⟩ 8 (by kernel_rfl) (by kernel_rfl) (by kernel_rfl) (by kernel_rfl)) ?_
 intro W base args ds gs before hval0 hW hcnd hsz0 _
 have hsz : (DataW.weightsEach Try.prog (Try.f5.params.toList ++ Rows.fnExactGraphBytesSpec.plain.varTypes Try.prog) (ds ++ gs)).all (· ≤ reachBytes) = true:=hsz0
 have hval : ∀ (j : Nat) t v,Try.f5.params[j]? = some t → args[j]? = some v → Value.okWide Try.prog W .any base t v:=hval0
 have hW':=hW
 obtain ⟨p,q,hA0,hV,rfl,hfz,hnd⟩:=hW
 have hA : DataW.TrodAll enc Try.prog W 0 (fun _=>true) true Try.f5.params.toList args.toList ds p:=hA0
 rw [Try.params5] at hA hval hsz
 obtain ⟨v0,vs0,d0,ds0,p0,q0,hargs,rfl,rfl,h0,r0⟩:=trodAll_cons hA
 obtain ⟨rfl,rfl,rfl⟩:=trodAll_nil r0
 obtain rfl : args = #[v0]:=by cases args; simp_all
 obtain ⟨rfl,rfl⟩:=trodVars_none hV
 have hv0:=hval 0 64 v0 rfl rfl
 have k0:=h0
 have lt0 : ∀ x ∈ p0,x.block < W.heap.size:=by obtain ⟨m,hm⟩:=k0; exact DataW.trod_lt m _ _ _ hm
 obtain ⟨cs0,rfl⟩ : ∃ cs0,v0 = .agg cs0:=by
  unfold Value.okWide at hv0
  rw [Try.underlying64] at hv0
  obtain ⟨cs,h,_⟩:=hv0
  exact ⟨cs,h⟩
 obtain ⟨fuel0,hf0⟩:=h0
 obtain ⟨xs0,hxs0,hin0⟩:=read_sound tGraph 64 fuel0 cs0.toList _ ok_graph hf0 (fun n hn=>by
  have:=List.all_eq_true.1 hsz n (DataW.weights_mem_each (j:=0) rfl rfl n hn)
  simpa using this)
 obtain ⟨x0,rfl,h0⟩:=in_graph hin0
 have hc:=(c_FnExactGraphBytes (P:=Try.prog) x0 h0).c W (fun _=>False) [.agg cs0] (fun _ h=>h.elim) ⟨_,_,rfl,⟨cs0,rfl,hxs0⟩,rfl⟩
 refine hc.mono fun e W' ⟨v,β,he,hG,_,hr,_⟩=>?_
 subst he
 have hr : v = .bool true:=hr
 subst hr
 have bel : Below W.heap.size W W':=⟨hG.os,hG.tape,hG.output,hG.size,fun k hk=>hG.block k hk⟩
 exact ⟨_,rfl,_,_,_,[],_,[],hW',trodAll_mk1 (shut_bool Try.underlying4 _),trodAll_cons_mk (Below.trod p_laid (by kernel_rfl) (of_decide_eq_true (by kernel_rfl)) k0 bel lt0) trodAll_mk0,rfl,bel.frame _,fun h=>by cases h⟩
theorem z1 : (Rows.fnExactGraphBytesRow.inPlace == Try.prog.inPlace 5) = true:=by kernel_rfl
theorem z2 : (Rows.fnExactGraphBytesRow.unfollowed == Try.prog.unfollowed 5) = true:=by kernel_rfl
theorem z3 : (Rows.fnExactGraphBytesRow.recurses == Try.prog.recurses 5) = true:=by kernel_rfl
theorem z4 : (Rows.fnExactGraphBytesRow.named == Try.prog.varsNamed 5) = true:=by kernel_rfl
theorem closed : joinedFacts Try.prog 5 Try.f5 Rows.fnExactGraphBytesSpec Rows.fnExactGraphBytesRow = true:=by
 unfold joinedFacts
 refine and_mk (and_mk (and_mk (and_mk (and_mk (and_mk (and_mk (and_mk (and_mk (and_mk (and_mk (and_mk (and_mk (and_mk (and_mk (and_mk (and_mk (and_mk (and_mk (and_mk (and_mk (and_mk (and_mk (and_mk (and_mk (and_mk (and_mk (and_mk (and_mk (and_mk (and_mk ?_ p_laid) p_maps) ?_) ?_) ?_) p_stops) ?_) p_knobs) z1) z2) z3) z4) ?_) ?_) ?_) ?_) ?_) ?_) ?_) ?_) ?_) p_keys) ?_) p_heard) p_enter) ?_) ?_) ?_) ?_) ?_) ?_
 all_goals as_aux_lemma=>kernel_rfl
theorem instanced : Try.f5.isInstance Try.prog Rows.fnExactGraphBytesRow.origin Rows.fnExactGraphBytesRow.targs:=of_decide_eq_true (by kernel_rfl)
theorem wrapped : Try.f5.isWrapper Try.prog Rows.fnExactGraphBytesRow.wrapper Rows.fnExactGraphBytesRow.mainSum:=by unfold Func.isWrapper; first | (rw [if_pos (by decide +kernel)]; kernel_rfl) | (rw [if_neg (by decide +kernel)]; exact ⟨rfl,rfl⟩)
theorem named : Try.pinned.checked.prog.funcNamed Rows.fnExactGraphBytesRow.func = some 5:=by kernel_rfl
theorem over : Rows.fnExactGraphBytesRow.holds Try.pinned (OpenSpec.ofChange Rows.fnExactGraphBytesSpec) :=
 OpenClaim.holds_of_wide 5 Try.f5 rfl rfl rfl rfl rfl rfl rfl ⟨rfl,rfl,rfl,rfl,rfl⟩ rfl rfl rfl rfl rfl named Try.func5 closed instanced wrapped
  (fun os started H enc _=>lifted os started H enc)
end graphBytes
theorem fnExactGraphBytes_holds : Rows.FnExactGraphBytesSaid:=graphBytes.over
end Go.Proofs.Ytnlobbbbgcdiiaa
end
