/- The given statement FnExactAlikeSaid: for every input the law returns true, and its arguments read afterwards as they read before. No conditions. -/
import Derived.Test.YtlgeggpcnbbjdaaGreatRows
import Derived.Test.YtlgeggpcnbbjdaaGreatA6
section
namespace Go.Proofs.YtlgeggpcnbbjdaaGreat
open Go.Pm
open Go.ChangeShapes Go.WideShapes Go.ChangeAt Go.RowKit
set_option linter.unusedVariables false
set_option maxRecDepth 100000
set_option maxHeartbeats 20000000
namespace alike
theorem lifted (os : Os) (started : os.Started) (H : Type) (enc : TypeId × Value → H) :
  ReturnsInHanded {} Tryz.checked os 3 .any (Rows.fnExactAlikeSpec.pre6 enc Tryz.prog Tryz.f3 Rows.fnExactAlikeRow.domain false) (Rows.fnExactAlikeSpec.post enc Tryz.prog Tryz.f3 false true false false):=by
 refine returnsInHanded_of_change_sized (C:=Tryz.checked) p_own started (by kernel_rfl) Tryz.func3
  (ChangeSpec.witness6 (enc:=enc) (C:=Tryz.checked) false ⟨#[],#[.agg #[.slice none 0 0,.slice none 0 0],.int .i64 0],[]⟩ 8 (by kernel_rfl) (by kernel_rfl) (by kernel_rfl) (by kernel_rfl)) ?_
 intro W base args ds gs before hval0 hW hcnd hsz0 _
 have hsz : (DataW.weightsEach Tryz.prog (Tryz.f3.params.toList ++ Rows.fnExactAlikeSpec.plain.varTypes Tryz.prog) (ds ++ gs)).all (· ≤ reachBytes) = true:=hsz0
 have hval : ∀ (j : Nat) t v,Tryz.f3.params[j]? = some t → args[j]? = some v → Value.okWide Tryz.prog W .any base t v:=hval0
 have hW':=hW
 obtain ⟨p,q,hA0,hV,rfl,hfz,hnd⟩:=hW
 have hA : DataW.TrodAll enc Tryz.prog W 0 (fun _=>true) true Tryz.f3.params.toList args.toList ds p:=hA0
 rw [Tryz.params3] at hA hval hsz
 obtain ⟨v0,vs0,d0,ds0,p0,q0,hargs,rfl,rfl,h0,r0⟩:=trodAll_cons hA
 obtain ⟨v1,vs1,d1,ds1,p1,q1,rfl,rfl,rfl,h1,r1⟩:=trodAll_cons r0
 obtain ⟨rfl,rfl,rfl⟩:=trodAll_nil r1
 obtain rfl : args = #[v0,v1]:=by cases args; simp_all
 obtain ⟨rfl,rfl⟩:=trodVars_none hV
 have hv0:=hval 0 25 v0 rfl rfl
 have k0:=h0
 have lt0 : ∀ x ∈ p0,x.block < W.heap.size:=by obtain ⟨m,hm⟩:=k0; exact DataW.trod_lt m _ _ _ hm
 obtain ⟨cs0,rfl⟩ : ∃ cs0,v0 = .agg cs0:=by
  unfold Value.okWide at hv0
  rw [Tryz.underlying25] at hv0
  obtain ⟨cs,h,_⟩:=hv0
  exact ⟨cs,h⟩
 obtain ⟨fuel0,hf0⟩:=h0
 obtain ⟨xs0,hxs0,hin0⟩:=read_sound tPeers 25 fuel0 cs0.toList _ ok_peers hf0 (fun n hn=>by
  have:=List.all_eq_true.1 hsz n (DataW.weights_mem_each (j:=0) rfl rfl n hn)
  simpa using this)
 obtain ⟨x0,rfl,h0⟩:=in_peers hin0
 have hv1:=hval 1 2 v1 rfl rfl
 have k1:=h1
 have lt1 : ∀ x ∈ p1,x.block < W.heap.size:=by obtain ⟨m,hm⟩:=k1; exact DataW.trod_lt m _ _ _ hm
 obtain ⟨x1,rfl⟩ : ∃ x1,v1 = .int .i64 x1:=by
  unfold Value.okWide at hv1
  rw [Tryz.underlying2] at hv1
  cases v1 <;> first | exact hv1.elim | exact ⟨_,by rw [hv1.1]⟩ | exact ⟨_,rfl⟩
 have hc:=(c_FnExactAlike (P:=Tryz.prog) x0 x1 h0).c W (fun _=>False) [.agg cs0,.int .i64 x1] (fun _ h=>h.elim) ⟨_,_,rfl,⟨cs0,rfl,hxs0⟩,⟨_,_,rfl,rfl,rfl⟩⟩
 refine hc.mono fun e W' ⟨v,β,he,hG,_,hr,_⟩=>?_
 subst he
 have hr : v = .bool true:=hr
 subst hr
 have bel : Below W.heap.size W W':=⟨hG.os,hG.tape,hG.output,hG.size,fun k hk=>hG.block k hk⟩
 exact ⟨_,rfl,_,_,_,[],_,[],hW',trodAll_mk1 (shut_bool Tryz.underlying4 _),trodAll_cons_mk (Below.trod p_laid (by kernel_rfl) (of_decide_eq_true (by kernel_rfl)) k0 bel lt0) (trodAll_cons_mk (Below.trod p_laid (by kernel_rfl) (of_decide_eq_true (by kernel_rfl)) k1 bel lt1) trodAll_mk0),rfl,bel.frame _,fun h=>by cases h⟩
theorem z1 : (Rows.fnExactAlikeRow.inPlace == Tryz.prog.inPlace 3) = true:=by kernel_rfl
theorem z2 : (Rows.fnExactAlikeRow.unfollowed == Tryz.prog.unfollowed 3) = true:=by kernel_rfl
theorem z3 : (Rows.fnExactAlikeRow.recurses == Tryz.prog.recurses 3) = true:=by kernel_rfl
theorem z4 : (Rows.fnExactAlikeRow.named == Tryz.prog.varsNamed 3) = true:=by kernel_rfl
theorem closed : joinedFacts Tryz.prog 3 Tryz.f3 Rows.fnExactAlikeSpec Rows.fnExactAlikeRow = true:=by
 unfold joinedFacts
 refine and_mk (and_mk (and_mk (and_mk (and_mk (and_mk (and_mk (and_mk (and_mk (and_mk (and_mk (and_mk (and_mk (and_mk (and_mk (and_mk (and_mk (and_mk (and_mk (and_mk (and_mk (and_mk (and_mk (and_mk (and_mk (and_mk (and_mk (and_mk (and_mk (and_mk (and_mk ?_ p_laid) p_maps) ?_) ?_) ?_) p_stops) ?_) p_knobs) z1) z2) z3) z4) ?_) ?_) ?_) ?_) ?_) ?_) ?_) ?_) ?_) p_keys) ?_) p_heard) p_enter) ?_) ?_) ?_) ?_) ?_) ?_
 all_goals as_aux_lemma=>kernel_rfl
theorem instanced : Tryz.f3.isInstance Tryz.prog Rows.fnExactAlikeRow.origin Rows.fnExactAlikeRow.targs:=of_decide_eq_true (by kernel_rfl)
theorem wrapped : Tryz.f3.isWrapper Tryz.prog Rows.fnExactAlikeRow.wrapper Rows.fnExactAlikeRow.mainSum:=by unfold Func.isWrapper; first | (rw [if_pos (by decide +kernel)]; kernel_rfl) | (rw [if_neg (by decide +kernel)]; exact ⟨rfl,rfl⟩)
theorem named : Tryz.pinned.checked.prog.funcNamed Rows.fnExactAlikeRow.func = some 3:=by kernel_rfl
theorem over : Rows.fnExactAlikeRow.holds Tryz.pinned (OpenSpec.ofChange Rows.fnExactAlikeSpec) :=
 OpenClaim.holds_of_wide 3 Tryz.f3 rfl rfl rfl rfl rfl rfl rfl ⟨rfl,rfl,rfl,rfl,rfl⟩ rfl rfl rfl rfl rfl named Tryz.func3 closed instanced wrapped
  (fun os started H enc _=>lifted os started H enc)
end alike
theorem fnExactAlike_holds : Rows.FnExactAlikeSaid:=alike.over
end Go.Proofs.YtlgeggpcnbbjdaaGreat
end
