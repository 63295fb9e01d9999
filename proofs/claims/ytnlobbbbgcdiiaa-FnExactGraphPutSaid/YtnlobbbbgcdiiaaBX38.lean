/- The given statement FnExactGraphPutSaid: for every input the law returns true, and its arguments read afterwards as they read before. No conditions. -/
import Derived.Test.YtnlobbbbgcdiiaaRows
import Derived.Test.YtnlobbbbgcdiiaaB5
section
namespace Go.Proofs.Ytnlobbbbgcdiiaa
open Go.Pm
open Go.ChangeShapes Go.WideShapes Go.ChangeAt Go.RowKit
set_option linter.unusedVariables false
set_option maxRecDepth 100000
set_option maxHeartbeats 20000000
namespace graphPut
theorem lifted (os : Os) (started : os.Started) (H : Type) (enc : TypeId × Value → H) :
  ReturnsInHanded {} Try.checked os 6 .any (Rows.fnExactGraphPutSpec.pre6 enc Try.prog Try.f6 Rows.fnExactGraphPutRow.domain false) (Rows.fnExactGraphPutSpec.post enc Try.prog Try.f6 false true false false):=by
 refine returnsInHanded_of_change_sized (C:=Try.checked) p_own started (by kernel_rfl) Try.func6
  (ChangeSpec.witness6 (enc:=enc) (C:=Try.checked) false ⟨#[],#[.agg #[.int .i64 0,.slice none 0 0,.slice none 0 0],.agg #[.int .i64 0,.int .i64 0,.int .i64 0,.int .i64 0,.int .i64 0,.int .i64 0,.string ByteArray.empty,.slice none 0 0,.int .i64 0]],[]⟩ 8 (by kernel_rfl) (by kernel_rfl) (by kernel_rfl) (by kernel_rfl)) ?_
 intro W base args ds gs before hval0 hW hcnd hsz0 _
 have hsz : (DataW.weightsEach Try.prog (Try.f6.params.toList ++ Rows.fnExactGraphPutSpec.plain.varTypes Try.prog) (ds ++ gs)).all (· ≤ reachBytes) = true:=hsz0
 have hval : ∀ (j : Nat) t v,Try.f6.params[j]? = some t → args[j]? = some v → Value.okWide Try.prog W .any base t v:=hval0
 have hW':=hW
 obtain ⟨p,q,hA0,hV,rfl,hfz,hnd⟩:=hW
 have hA : DataW.TrodAll enc Try.prog W 0 (fun _=>true) true Try.f6.params.toList args.toList ds p:=hA0
 rw [Try.params6] at hA hval hsz
 obtain ⟨v0,vs0,d0,ds0,p0,q0,hargs,rfl,rfl,h0,r0⟩:=trodAll_cons hA
 obtain ⟨v1,vs1,d1,ds1,p1,q1,rfl,rfl,rfl,h1,r1⟩:=trodAll_cons r0
 obtain ⟨rfl,rfl,rfl⟩:=trodAll_nil r1
 obtain rfl : args = #[v0,v1]:=by cases args; simp_all
 obtain ⟨rfl,rfl⟩:=trodVars_none hV
 have hv0:=hval 0 64 v0 rfl rfl
 have k0:=h0
 have lt0 : ∀ x ∈ p0,x.block < W.heap.size:=by obtain ⟨m,hm⟩:=k0; exact DataW.trod_lt m _ _ _ hm
 obtain ⟨cs0,rfl⟩ : ∃ cs0,v0 = .agg cs0:=by
  unfold Value.okWide at hv0
  rw [Try.underlying64] at hv0
  obtain ⟨cs,h,_⟩:=hv0
  exact ⟨cs,h⟩
 obtain ⟨fuel0,hf0⟩:=h0
 obtain ⟨xs0,hxs0,hin0⟩:=read_sound tGraph 64 fuel0 cs0.toList _ ok_graph hf0 (fun n hn=>by
  have:=List.all_eq_true.1 hsz n (DataW.weights_mem_each (j:=0) rfl rfl n hn)
  simpa using this)
 obtain ⟨x0,rfl,h0⟩:=in_graph hin0
 have hv1:=hval 1 74 v1 rfl rfl
 have k1:=h1
 have lt1 : ∀ x ∈ p1,x.block < W.heap.size:=by obtain ⟨m,hm⟩:=k1; exact DataW.trod_lt m _ _ _ hm
 obtain ⟨cs1,rfl⟩ : ∃ cs1,v1 = .agg cs1:=by
  unfold Value.okWide at hv1
  rw [Try.underlying74] at hv1
  obtain ⟨cs,h,_⟩:=hv1
  exact ⟨cs,h⟩
 obtain ⟨fuel1,hf1⟩:=h1
 obtain ⟨xs1,hxs1,hin1⟩:=read_sound tEvent 74 fuel1 cs1.toList _ ok_event hf1 (fun n hn=>by
  have:=List.all_eq_true.1 hsz n (DataW.weights_mem_each (j:=1) rfl rfl n hn)
  simpa using this)
 obtain ⟨x1,rfl,h1⟩:=in_event hin1
 have hc:=(c_FnExactGraphPut (P:=Try.prog) x0 x1 h0 h1).c W (fun _=>False) [.agg cs0,.agg cs1] (fun _ h=>h.elim) ⟨_,_,rfl,⟨cs0,rfl,hxs0⟩,⟨_,_,rfl,⟨cs1,rfl,hxs1⟩,rfl⟩⟩
 refine hc.mono fun e W' ⟨v,β,he,hG,_,hr,_⟩=>?_
 subst he
 have hr : v = .bool true:=hr
 subst hr
 have bel : Below W.heap.size W W':=⟨hG.os,hG.tape,hG.output,hG.size,fun k hk=>hG.block k hk⟩
 exact ⟨_,rfl,_,_,_,[],_,[],hW',trodAll_mk1 (shut_bool Try.underlying4 _),trodAll_cons_mk (Below.trod p_laid (by kernel_rfl) (of_decide_eq_true (by kernel_rfl)) k0 bel lt0) (trodAll_cons_mk (Below.trod p_laid (by kernel_rfl) (of_decide_eq_true (by kernel_rfl)) k1 bel lt1) trodAll_mk0),rfl,bel.frame _,fun h=>by cases h⟩
theorem z1 : (Rows.fnExactGraphPutRow.inPlace == Try.prog.inPlace 6) = true:=by kernel_rfl
theorem z2 : (Rows.fnExactGraphPutRow.unfollowed == Try.prog.unfollowed 6) = true:=by kernel_rfl
theorem z3 : (Rows.fnExactGraphPutRow.recurses == Try.prog.recurses 6) = true:=by kernel_rfl
theorem z4 : (Rows.fnExactGraphPutRow.named == Try.prog.varsNamed 6) = true:=by kernel_rfl
theorem closed : joinedFacts Try.prog 6 Try.f6 Rows.fnExactGraphPutSpec Rows.fnExactGraphPutRow = true:=by
 unfold joinedFacts
 refine and_mk (and_mk (and_mk (and_mk (and_mk (and_mk (and_mk (and_mk (and_mk (and_mk (and_mk (and_mk (and_mk (and_mk (and_mk (and_mk (and_mk (and_mk (and_mk (and_mk (and_mk (and_mk (and_mk (and_mk (and_mk (and_mk (and_mk (and_mk (and_mk (and_mk (and_mk ?_ p_laid) p_maps) ?_) ?_) ?_) p_stops) ?_) p_knobs) z1) z2) z3) z4) ?_) ?_) ?_) ?_) ?_) ?_) ?_) ?_) ?_) p_keys) ?_) p_heard) p_enter) ?_) ?_) ?_) ?_) ?_) ?_
 all_goals as_aux_lemma=>kernel_rfl
theorem instanced : Try.f6.isInstance Try.prog Rows.fnExactGraphPutRow.origin Rows.fnExactGraphPutRow.targs:=of_decide_eq_true (by kernel_rfl)
theorem wrapped : Try.f6.isWrapper Try.prog Rows.fnExactGraphPutRow.wrapper Rows.fnExactGraphPutRow.mainSum:=by unfold Func.isWrapper; first | (rw [if_pos (by decide +kernel)]; kernel_rfl) | (rw [if_neg (by decide +kernel)]; exact ⟨rfl,rfl⟩)
theorem named : Try.pinned.checked.prog.funcNamed Rows.fnExactGraphPutRow.func = some 6:=by kernel_rfl
theorem over : Rows.fnExactGraphPutRow.holds Try.pinned (OpenSpec.ofChange Rows.fnExactGraphPutSpec) :=
 OpenClaim.holds_of_wide 6 Try.f6 rfl rfl rfl rfl rfl rfl rfl ⟨rfl,rfl,rfl,rfl,rfl⟩ rfl rfl rfl rfl rfl named Try.func6 closed instanced wrapped
  (fun os started H enc _=>lifted os started H enc)
end graphPut
theorem fnExactGraphPut_holds : Rows.FnExactGraphPutSaid:=graphPut.over
end Go.Proofs.Ytnlobbbbgcdiiaa
end
