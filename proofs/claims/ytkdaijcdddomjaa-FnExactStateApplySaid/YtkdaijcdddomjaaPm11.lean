/- The abstract machine: calls. -/
import Derived.Test.YtkdaijcdddomjaaPm10
set_option linter.unusedVariables false
set_option linter.unusedSimpArgs false
namespace Go.Pm
open Go.RowKit

theorem obLe_some {m : List Ob} {β : List Lc} {m' : List Ob} {β' : List Lc} {o o' : Nat} (h1 : ∀ ob, m[o]? = some ob → ob ≠ .hole → m'[o']? = some ob) (h2 : ∀ l, β[o]? = some l → β'[o']? = some l ∨ m[o]? = some .hole) : obLe m[o]? β[o]? m'[o']? β'[o']? := by
  cases hm : m[o]? with
  | none => trivial
  | some ob =>
    cases ob with
    | hole => cases β[o]? <;> trivial
    | dead => exact h1 _ hm (by simp)
    | box lv cs =>
      cases hb : β[o]? with
      | none => trivial
      | some l =>
        rcases h2 l hb with h | h
        · exact .inr ⟨_, _, _, h1 _ hm (by simp), h, rfl⟩
        · rw [hm] at h; cases h
    | arr lv sz xs =>
      cases hb : β[o]? with
      | none => trivial
      | some l =>
        rcases h2 l hb with h | h
        · exact .inr ⟨_, _, h1 _ hm (by simp), h, Nat.le_refl _⟩
        · rw [hm] at h; cases h
    | mp lv ks vs =>
      cases hb : β[o]? with
      | none => trivial
      | some l =>
        rcases h2 l hb with h | h
        · exact .inr ⟨_, _, _, _, h1 _ hm (by simp), h, rfl⟩
        · rw [hm] at h; cases h

theorem OK.tr {c c' : Cx} {ρ : Nat → Nat} {ok : Nat → Prop} (h : Tr c c' ρ ok) {l : Lc} {ob : Ob} (hw : c'.w.heap[l.b]? = c.w.heap[l.b]?) (hp : ob.pure) (hok : ∀ o, False → ok o) (k : OK c l ob) : OK c' l ob := by
  cases ob with
  | hole => trivial
  | dead => trivial
  | box lv cs =>
    obtain ⟨us, e, fr, h1, h2, h3, h4, h5⟩ := k
    have h6 := RC.tr h l.b hw cs 0 (Refs.mono (fun o q => hok o q) cs hp) h4
    rw [rens_pure cs hp] at h6
    exact ⟨us, e, fr, hw.trans h1, h2, h3, h6, h5.imp id fun q => (h.fz _ q).1⟩
  | arr lv sz xs =>
    obtain ⟨h1, h2, h3, h4⟩ := k
    refine ⟨h1, h2, h3, h4.imp id ?_⟩
    rintro ⟨us, e, fr, g1, g2, g3, g4, g5⟩
    have h6 := RR.tr h sz l.b hw xs 0 (Refss.mono (fun o q => hok o q) xs hp) g4
    rw [renss_pure xs hp] at h6
    exact ⟨us, e, fr, hw.trans g1, g2, g3, h6, g5.imp id fun q => (h.fz _ q).1⟩
  | mp lv ks vs =>
    obtain ⟨es, n, h1, h2, h3, h4⟩ := k
    have h6 := RVs.tr h ks _ (Refs.mono (fun o q => hok o q) ks hp.1) h2
    have h7 := RVs.tr h vs _ (Refs.mono (fun o q => hok o q) vs hp.2) h3
    rw [rens_pure ks hp.1] at h6
    rw [rens_pure vs hp.2] at h7
    exact ⟨es, n, hw.trans h1, h6, h7, h4.imp id fun q => (h.fz _ q).1⟩

section
variable {w w' : World} {Zo : Nat → Prop} {m mr : List Ob} {β βr : List Lc} {base : Nat}
theorem Mem.join (M : Mem w Zo m β) (G : Grow w w') (M' : Mem w' (fun b => Zo b ∨ liveAt m β b) mr βr) (hn : ∀ b, liveAt mr βr b → w.heap.size ≤ b) (hp : ∀ ob ∈ mr, ob.pure) (hb : base + mr.length ≤ m.length) (hh : ∀ j, j < mr.length → m[base + j]? = some .hole) :
    Mem w' Zo (fills m base mr) (fillsL β base βr) ∧ (cx w Zo m β).le (cx w' Zo (fills m base mr) (fillsL β base βr)) ∧
      Tr (cx w' (fun b => Zo b ∨ liveAt m β b) mr βr) (cx w' Zo (fills m base mr) (fillsL β base βr)) (fun o => base + o) (fun _ => True) ∧ (∀ b, liveAt (fills m base mr) (fillsL β base βr) b → liveAt m β b ∨ w.heap.size ≤ b) := by
  have hL := M'.len
  have gm : ∀ q, (fills m base mr)[q]? = if base ≤ q ∧ q < base + mr.length then mr[q - base]? else m[q]? := fun q => fills_get mr m base q hb
  have gβ : ∀ q, (fillsL β base βr)[q]? = if base ≤ q ∧ q < base + mr.length then βr[q - base]? else β[q]? := fun q => by
    rw [fillsL_get βr β base q (by rw [M.len, hL]; exact hb), hL]
  have gin : ∀ q, base ≤ q ∧ q < base + mr.length → m[q]? = some .hole := fun q hq => by
    have := hh (q - base) (by omega)
    rwa [show base + (q - base) = q by omega] at this
  have glive : ∀ q ob l b, (fills m base mr)[q]? = some ob → (fillsL β base βr)[q]? = some l → ob.blk l = some b →
      (¬ (base ≤ q ∧ q < base + mr.length) ∧ m[q]? = some ob ∧ β[q]? = some l ∧ b < w.heap.size) ∨ (base ≤ q ∧ q < base + mr.length ∧ mr[q - base]? = some ob ∧ βr[q - base]? = some l ∧ w.heap.size ≤ b) := by
    intro q ob l b h1 h2 h3
    rw [gm] at h1
    rw [gβ] at h2
    by_cases hq : base ≤ q ∧ q < base + mr.length
    · rw [if_pos hq] at h1 h2
      exact .inr ⟨hq.1, hq.2, h1, h2, hn b ⟨_, _, _, h1, h2, h3⟩⟩
    · rw [if_neg hq] at h1 h2
      exact .inl ⟨hq, h1, h2, M.live_lt ⟨_, _, _, h1, h2, h3⟩⟩
  have hlive : ∀ b, liveAt (fills m base mr) (fillsL β base βr) b → liveAt m β b ∨ (liveAt mr βr b ∧ w.heap.size ≤ b) := by
    rintro b ⟨q, ob, l, h1, h2, h3⟩
    rcases glive q ob l b h1 h2 h3 with ⟨_, a1, a2, _⟩ | ⟨_, _, a1, a2, a3⟩
    · exact .inl ⟨q, ob, l, a1, a2, h3⟩
    · exact .inr ⟨⟨_, ob, l, a1, a2, h3⟩, a3⟩
  have hle : (cx w Zo m β).le (cx w' Zo (fills m base mr) (fillsL β base βr)) := by
    refine ⟨fun b hf => ⟨⟨Nat.lt_of_lt_of_le hf.1 G.size, ?_⟩, G.block b hf.1⟩, fun q _ => ?_⟩
    · rintro (hz | hz)
      · exact hf.2 (.inl hz)
      · rcases hlive b hz with h | ⟨_, h⟩
        · exact hf.2 (.inr h)
        · have h2 : b < w.heap.size := hf.1
          omega
    · show obLe m[q]? β[q]? (fills m base mr)[q]? (fillsL β base βr)[q]?
      refine obLe_some (fun ob h1 h2 => ?_) (fun l h1 => ?_)
      · rw [gm, if_neg (fun hq => h2 (by rw [gin q hq] at h1; cases h1; rfl))]
        exact h1
      · by_cases hq : base ≤ q ∧ q < base + mr.length
        · exact .inr (gin q hq)
        · rw [gβ, if_neg hq]; exact .inl h1
  have htr : Tr (cx w' (fun b => Zo b ∨ liveAt m β b) mr βr) (cx w' Zo (fills m base mr) (fillsL β base βr)) (fun o => base + o) (fun _ => True) := by
    refine ⟨fun b hf => ⟨⟨hf.1, ?_⟩, rfl⟩, fun q _ => ?_⟩
    · rintro (hz | hz)
      · exact hf.2 (.inl (.inl hz))
      · rcases hlive b hz with h | ⟨h, _⟩
        · exact hf.2 (.inl (.inr h))
        · exact hf.2 (.inr h)
    · show obLe mr[q]? βr[q]? (fills m base mr)[base + q]? (fillsL β base βr)[base + q]?
      refine obLe_some (fun ob h1 h2 => ?_) (fun l h1 => ?_)
      · have := (List.getElem?_eq_some_iff.1 h1).1
        rw [gm, if_pos (by omega), Nat.add_sub_cancel_left]; exact h1
      · have := (List.getElem?_eq_some_iff.1 h1).1
        rw [gβ, if_pos (by omega), Nat.add_sub_cancel_left]; exact .inl h1
  refine ⟨⟨by rw [fillsL_length, fills_length, M.len], ?_, ?_, ?_, fun b hz => Nat.lt_of_lt_of_le (M.zlt b hz) G.size⟩, hle, htr, fun b h => (hlive b h).imp id (·.2)⟩
  · intro q ob l h1 h2
    by_cases hq : base ≤ q ∧ q < base + mr.length
    · rw [gm, if_pos hq] at h1
      rw [gβ, if_pos hq] at h2
      exact OK.tr htr rfl (hp ob (List.mem_of_getElem? h1)) (fun o h => trivial) (M'.ok _ ob l h1 h2)
    · have h1' := h1
      have h2' := h2
      rw [gm, if_neg hq] at h1
      rw [gβ, if_neg hq] at h2
      exact (M.ok q ob l h1 h2).mono hle (fun b hb => G.block b (blk_lt (M.ok q ob l h1 h2) hb).2)
  · intro q q' ob ob' l l' b h1 h2 h3 h4 h5 h6
    rcases glive q ob l b h1 h3 h5 with ⟨a1, a2, a3, a4⟩ | ⟨a1, a2, a3, a4, a5⟩ <;> rcases glive q' ob' l' b h2 h4 h6 with ⟨b1, b2, b3, b4⟩ | ⟨b1, b2, b3, b4, b5⟩
    · exact M.sep _ _ _ _ _ _ b a2 b2 a3 b3 h5 h6
    · omega
    · omega
    · have := M'.sep _ _ _ _ _ _ b a3 b3 a4 b4 h5 h6
      omega
  · intro b hb hz
    rcases hlive b hb with h | ⟨_, h⟩
    · exact M.out b h hz
    · have := M.zlt b hz
      omega
end

section
variable {w : World} {Zo : Nat → Prop} {mT m : List Ob} {β : List Lc}
theorem fz0 {b : Nat} (h1 : b < w.heap.size) (h2 : ¬ Zo b) : (cx w Zo [] []).fz b := by
  refine ⟨h1, ?_⟩
  rintro (hz | ⟨q, ob, l, hq, _⟩)
  · exact h2 hz
  · simp at hq
theorem fz_all {b : Nat} (h : (cx w Zo m β).fz b) : (cx w Zo [] []).fz b := fz0 h.1 fun hz => h.2 (.inl hz)
theorem tr0 : Tr (cx w Zo m β) (cx w Zo [] []) (fun o => o) (fun _ => False) := pure_tr fun b => fz_all
theorem RV.pure0 {x : V} {v : Value} (hp : Ref (fun _ => False) x) (h : RV (cx w Zo m β) x v) : RV (cx w Zo [] []) x v := by
  have := RV.tr tr0 x v hp h
  rwa [V.ren_pure x hp] at this
mutual
/-- For the time of a call that writes nothing that was there, all objects are frozen. -/
theorem convZ (M : Mem w Zo m β) (A : Agree mT m) : ∀ (x : V) (v : Value), Ref (fun _ => False) (convR mT x) → RV (cx w Zo m β) x v → RV (cx w Zo [] []) (convR mT x) v
  | .ar q off len, v, hp, h => by
    unfold convR conv at hp ⊢
    rw [List.getElem?_map] at hp ⊢
    cases hT : mT[q]? with
    | none => rw [hT] at hp; exact hp.elim
    | some ob =>
      rw [hT] at hp
      cases ob with
      | arr lv sz xs =>
        simp only [Option.map_some, Ob.still] at hp ⊢
        obtain ⟨hm, l, hl, ⟨g1, g2, g3, g4⟩, hle, A', e, hA⟩ := at_ar M A hT h
        have hlen : ((xs.drop off).take len).length = len := by simp; omega
        refine ⟨A', l.cap - off, by rw [hlen]; exact e, by rw [hlen]; omega, by rw [hlen]; omega, ?_⟩
        by_cases h0 : len = 0
        · exact .inl (List.eq_nil_of_length_eq_zero (by rw [hlen, h0]))
        · refine .inr ?_
          rcases g4 with g4 | ⟨us, e', fr, h1, h2, h3, h4, h5⟩
          · omega
          · have hb : (cx w Zo [] []).fz l.b := by
              refine fz0 (Array.getElem?_eq_some_iff.1 h1).1 fun hz => ?_
              cases lv with
              | true => exact M.out l.b ⟨q, _, l, hm, hl, by simp [Ob.blk]; omega⟩ hz
              | false => exact (h5.resolve_left (by simp)).2 (.inl hz)
            refine ⟨l.b, off * sz, hA (by omega), hb, ?_⟩
            have := (h4.drop off).take len
            rw [Nat.zero_add] at this
            have := RR.tr (tr0 (w := w) (Zo := Zo) (m := m) (β := β)) sz l.b rfl _ _ hp this
            rwa [renss_pure _ hp] at this
      | hole => exact hp.elim
      | dead => exact hp.elim
      | box lv cs => exact hp.elim
      | mp lv ks vs => exact hp.elim
  | .ptr q off, v, hp, h => by
    unfold convR conv at hp ⊢
    rw [List.getElem?_map] at hp ⊢
    cases hT : mT[q]? with
    | none => rw [hT] at hp; exact hp.elim
    | some ob =>
      rw [hT] at hp
      cases ob with
      | box lv cs =>
        simp only [Option.map_some, Ob.still] at hp ⊢
        obtain ⟨hm, l, hl, ⟨us, e', fr, h1, h2, h3, h4, h5⟩, e⟩ := at_ptr M A hT h (by simp)
        have hb : (cx w Zo [] []).fz l.b := by
          refine fz0 (Array.getElem?_eq_some_iff.1 h1).1 fun hz => ?_
          cases lv with
          | true => exact M.out l.b ⟨q, _, l, hm, hl, rfl⟩ hz
          | false => exact (h5.resolve_left (by simp)).2 (.inl hz)
        refine ⟨l.b, e, hb, ?_⟩
        have := RC.tr (tr0 (w := w) (Zo := Zo) (m := m) (β := β)) l.b rfl _ _ hp h4
        rwa [rens_pure _ hp] at this
      | hole => exact hp.elim
      | dead => exact hp.elim
      | arr lv sz xs => exact hp.elim
      | mp lv ks vs => exact hp.elim
  | .eptr q i off, v, hp, h => by
    unfold convR conv at hp ⊢
    rw [List.getElem?_map] at hp ⊢
    cases hT : mT[q]? with
    | none => rw [hT] at hp; exact hp.elim
    | some ob =>
      rw [hT] at hp
      cases ob with
      | arr lv sz xs =>
        simp only [Option.map_some, Ob.still] at hp ⊢
        split
        · rename_i hi
          rw [if_pos hi] at hp
          obtain ⟨hm, l, hl, ⟨g1, g2, g3, g4⟩, e⟩ := at_eptr M A hT h
          rcases g4 with g4 | ⟨us, e', fr, h1, h2, h3, h4, h5⟩
          · omega
          · have hb : (cx w Zo [] []).fz l.b := by
              refine fz0 (Array.getElem?_eq_some_iff.1 h1).1 fun hz => ?_
              cases lv with
              | true => exact M.out l.b ⟨q, _, l, hm, hl, by simp [Ob.blk]; omega⟩ hz
              | false => exact (h5.resolve_left (by simp)).2 (.inl hz)
            refine ⟨l.b, 0, by rw [Nat.zero_add]; exact e, hb, ?_⟩
            have := RR.tr (tr0 (w := w) (Zo := Zo) (m := m) (β := β)) sz l.b rfl _ _ hp h4
            rwa [renss_pure _ hp] at this
        · trivial
      | hole => exact hp.elim
      | dead => exact hp.elim
      | box lv cs => exact hp.elim
      | mp lv ks vs => exact hp.elim
  | .map q, v, hp, h => by
    unfold convR conv at hp ⊢
    rw [List.getElem?_map] at hp ⊢
    cases hT : mT[q]? with
    | none => rw [hT] at hp; exact hp.elim
    | some ob =>
      rw [hT] at hp
      cases ob with
      | mp lv ks vs =>
        simp only [Option.map_some, Ob.still] at hp ⊢
        obtain ⟨hm, l, hl, ⟨es, n, h1, h2, h3, h5⟩, e⟩ := at_map M A hT h
        have hb : (cx w Zo [] []).fz l.b := by
          refine fz0 (Array.getElem?_eq_some_iff.1 h1).1 fun hz => ?_
          cases lv with
          | true => exact M.out l.b ⟨q, _, l, hm, hl, rfl⟩ hz
          | false => exact (h5.resolve_left (by simp)).2 (.inl hz)
        exact ⟨l.b, es, n, e, hb, h1, RVs.pure (fun b => fz_all) hp.1 h2, RVs.pure (fun b => fz_all) hp.2 h3⟩
      | hole => exact hp.elim
      | dead => exact hp.elim
      | box lv cs => exact hp.elim
      | arr lv sz xs => exact hp.elim
  | .agg cs, v, hp, ⟨us, e, h⟩ => ⟨us, e, convsZ M A cs us.toList hp h⟩
  | .tup cs, v, hp, ⟨us, e, h⟩ => ⟨us, e, convsZ M A cs us.toList hp h⟩
  | .fn f fs cs, v, hp, ⟨us, vs, e, h1, h2⟩ => ⟨us, vs, e, convsZ M A fs us.toList hp.1 h1, convsZ M A cs vs.toList hp.2 h2⟩
  | .junk, v, hp, h => trivial
  | .int k n, v, hp, h => h
  | .bool b, v, hp, h => h
  | .str s, v, hp, h => h
  | .nil, v, hp, h => h
  | .e0, v, hp, h => h
  | .arc _ _ _ _, v, hp, h => trivial
  | .sl sz xs, v, hp, h => RV.pure0 (x := .sl sz xs) hp h
  | .sptr sz xs i off, v, hp, h => RV.pure0 (x := .sptr sz xs i off) hp h
  | .fptr cs off, v, hp, h => RV.pure0 (x := .fptr cs off) hp h
  | .fmap ks vs, v, hp, h => RV.pure0 (x := .fmap ks vs) hp h
theorem convsZ (M : Mem w Zo m β) (A : Agree mT m) : ∀ (xs : List V) (us : List Value), Refs (fun _ => False) (convRs mT xs) → RVs (cx w Zo m β) xs us → RVs (cx w Zo [] []) (convRs mT xs) us
  | [], us, hp, h => h
  | x :: xs, us, hp, ⟨u, us', e, h1, h2⟩ => ⟨u, us', e, convZ M A x u hp.1 h1, convsZ M A xs us' hp.2 h2⟩
end
end

section
variable {P : Program} {o : Oper} {ev : Operand → V} {mT : List Ob} {base : Nat} {K : V → List Ob → Prop}
/-- A call whose arguments name no object. -/
theorem q_call {f : FuncId} {x : Operand} {args : Array Operand} {ts : Array TypeId} {fs cs : List V} {r : V} {mr : List Ob} (ho : o.op = .call { callee := .value x, args := args, argTypes := ts }) (hf : ev x = .fn f fs cs) (hbd : ∃ fn, P.funcs[f]? = some fn ∧ fn.body.isSome = true ∧ (fn.name == "runtime.NumGoroutine") = false)
    (hp : Refs (fun _ => False) (fs ++ args.toList.map ev ++ cs)) (hc : Contract P f (fs ++ args.toList.map ev ++ cs) r mr) (hmr : ∀ ob ∈ mr, ob.pure) (h : K (r.ren (fun q => base + q)) mr) : Goal P o ev mT base K := by
  refine ⟨_, _, ?_, h⟩
  intro w Zo m β a Q M A hx hh
  rw [ho] at hx
  have hv := hx x (by simp [Op.operands, Call.operands])
  rw [hf] at hv
  obtain ⟨us, vs, e, h1, h2⟩ := hv
  have h3 := run_evs (a := a) (c := cx w Zo m β) args.toList (fun y hy => hx y (by simp [Op.operands, Call.operands]; exact .inr (by simpa using hy)))
  have hall : RVs (cx w Zo m β) (fs ++ args.toList.map ev ++ cs) ((us ++ args.map a.eval) ++ vs).toList := by
    have := (h1.append h3).append h2
    simpa using this
  have hzz : ∀ b, (cx w Zo m β).fz b → (cx w (fun b => Zo b ∨ liveAt m β b) [] []).fz b := by
    rintro b ⟨g1, g2⟩
    refine ⟨g1, ?_⟩
    rintro (hz | ⟨q, ob, l, hq, _⟩)
    · exact g2 hz
    · simp at hq
  have hall' : RVs (cx w (fun b => Zo b ∨ liveAt m β b) [] []) (fs ++ args.toList.map ev ++ cs) ((us ++ args.map a.eval) ++ vs).toList := RVs.pure hzz hp hall
  have hcall := hc w (fun b => Zo b ∨ liveAt m β b) _ (fun b hb => hb.elim (M.zlt b) M.live_lt) hall'
  have hexec : (execOp a.eval o).run P w = .ok (.enter f ((us ++ args.map a.eval) ++ vs)) w := by
    obtain ⟨fn, g1, g2, g3⟩ := hbd
    have g4 : fn.body.isNone = false := by cases hb : fn.body <;> simp_all
    simp only [execOp, ho, resolve, e, Deferred.ofValue, Sem.run_bind, Sem.run_pure, Result.andThen_ok, invoke, callFunc, run_program, g1, g3, g4]
    rfl
  unfold Oper.wp
  rw [hexec]
  rw [Oper.upon_enter]
  have hcall2 : Calls P f (us ++ args.map a.eval ++ vs) w (fun e w' => ∃ v β', e = .returned v ∧ Grow w w' ∧ Mem w' (fun b => Zo b ∨ liveAt m β b) mr β' ∧ RV (cx w' (fun b => Zo b ∨ liveAt m β b) mr β') r v ∧ ∀ b, liveAt mr β' b → w.heap.size ≤ b) := by
    have : (us ++ args.map a.eval ++ vs).toList.toArray = us ++ args.map a.eval ++ vs := by simp
    rw [this] at hcall
    exact hcall
  refine hcall2.mono ?_
  rintro e' w' ⟨v, βr, rfl, G, M', hv', hn⟩
  by_cases hmr0 : mr = []
  · subst hmr0
    have hβr : βr = [] := List.eq_nil_of_length_eq_zero (by rw [M'.len]; rfl)
    subst hβr
    refine ⟨v, β, rfl, G, M.grow G, cx_le_grow G, ?_, fun b hb => .inl hb⟩
    have := RV.tr (c := cx w' (fun b => Zo b ∨ liveAt m β b) [] []) (c' := cx w' Zo m β) (ρ := fun q => base + q) (ok := fun _ => True) ⟨fun b hf => ⟨⟨hf.1, fun hz => hf.2 (.inl hz)⟩, rfl⟩, fun q _ => by show obLe ([] : List Ob)[q]? _ _ _; simp [obLe]⟩ r v (Ref.all r) hv'
    exact this
  · have hlast : base + (mr.length - 1) < m.length := by
      have := hh (mr.length - 1) (by have := List.length_pos_iff.2 hmr0; omega)
      exact (List.getElem?_eq_some_iff.1 this).1
    have hb : base + mr.length ≤ m.length := by have := List.length_pos_iff.2 hmr0; omega
    obtain ⟨J1, J2, J3, J4⟩ := M.join G M' hn hmr hb hh
    exact ⟨v, _, rfl, G, J1, J2, RV.tr J3 r v (Ref.all r) hv', J4⟩
/-- A call that only reads: for its time, all objects are frozen. -/
theorem q_callF {f : FuncId} {x : Operand} {args : Array Operand} {ts : Array TypeId} {fs cs : List V} {r : V} {mr : List Ob} (ho : o.op = .call { callee := .value x, args := args, argTypes := ts }) (hf : ev x = .fn f fs cs) (hbd : ∃ fn, P.funcs[f]? = some fn ∧ fn.body.isSome = true ∧ (fn.name == "runtime.NumGoroutine") = false)
    (hp : Refs (fun _ => False) (convRs mT (fs ++ args.toList.map ev ++ cs))) (hc : Contract P f (convRs mT (fs ++ args.toList.map ev ++ cs)) r mr) (hr : Flat r) (hfl : ∀ ob ∈ mr, ob.flat) (hmr : ∀ ob ∈ mr, ob.pure) (h : K (r.ren (fun q => base + q)) mr) : Goal P o ev mT base K := by
  refine ⟨_, _, ?_, h⟩
  intro w Zo m β a Q M A hx hh
  rw [ho] at hx
  have hv := hx x (by simp [Op.operands, Call.operands])
  rw [hf] at hv
  obtain ⟨us, vs, e, h1, h2⟩ := hv
  have h3 := run_evs (a := a) (c := cx w Zo m β) args.toList (fun y hy => hx y (by simp [Op.operands, Call.operands]; exact .inr (by simpa using hy)))
  have hall : RVs (cx w Zo m β) (fs ++ args.toList.map ev ++ cs) ((us ++ args.map a.eval) ++ vs).toList := by
    have := (h1.append h3).append h2
    simpa using this
  have hall' := convsZ M A _ _ hp hall
  have hcall := hc w Zo _ M.zlt hall'
  have hexec : (execOp a.eval o).run P w = .ok (.enter f ((us ++ args.map a.eval) ++ vs)) w := by
    obtain ⟨fn, g1, g2, g3⟩ := hbd
    have g4 : fn.body.isNone = false := by cases hb : fn.body <;> simp_all
    simp only [execOp, ho, resolve, e, Deferred.ofValue, Sem.run_bind, Sem.run_pure, Result.andThen_ok, invoke, callFunc, run_program, g1, g3, g4]
    rfl
  unfold Oper.wp
  rw [hexec]
  rw [Oper.upon_enter]
  have hcall2 : Calls P f (us ++ args.map a.eval ++ vs) w (fun e w' => ∃ v β', e = .returned v ∧ Grow w w' ∧ Mem w' Zo mr β' ∧ RV (cx w' Zo mr β') r v ∧ ∀ b, liveAt mr β' b → w.heap.size ≤ b) := by
    have : (us ++ args.map a.eval ++ vs).toList.toArray = us ++ args.map a.eval ++ vs := by simp
    rw [this] at hcall
    exact hcall
  refine hcall2.mono ?_
  rintro e' w' ⟨v, βr, rfl, G, M0, hv0, hn⟩
  have M' : Mem w' (fun b => Zo b ∨ liveAt m β b) mr βr := by
    refine M0.flatZ hfl ?_ ?_
    · rintro b hb (hz | hz)
      · exact M0.out b hb hz
      · have := M.live_lt hz
        have := hn b hb
        omega
    · intro b hz
      refine Nat.lt_of_lt_of_le ?_ G.size
      rcases hz with hz | hz
      · exact M.zlt b hz
      · exact M.live_lt hz
  have hv' : RV (cx w' (fun b => Zo b ∨ liveAt m β b) mr βr) r v := RV.flat r v hr hv0
  by_cases hmr0 : mr = []
  · subst hmr0
    have hβr : βr = [] := List.eq_nil_of_length_eq_zero (by rw [M'.len]; rfl)
    subst hβr
    refine ⟨v, β, rfl, G, M.grow G, cx_le_grow G, ?_, fun b hb => .inl hb⟩
    have := RV.tr (c := cx w' (fun b => Zo b ∨ liveAt m β b) [] []) (c' := cx w' Zo m β) (ρ := fun q => base + q) (ok := fun _ => True) ⟨fun b hf => ⟨⟨hf.1, fun hz => hf.2 (.inl hz)⟩, rfl⟩, fun q _ => by show obLe ([] : List Ob)[q]? _ _ _; simp [obLe]⟩ r v (Ref.all r) hv'
    exact this
  · have hlast : base + (mr.length - 1) < m.length := by
      have := hh (mr.length - 1) (by have := List.length_pos_iff.2 hmr0; omega)
      exact (List.getElem?_eq_some_iff.1 this).1
    have hb : base + mr.length ≤ m.length := by have := List.length_pos_iff.2 hmr0; omega
    obtain ⟨J1, J2, J3, J4⟩ := M.join G M' hn hmr hb hh
    exact ⟨v, _, rfl, G, J1, J2, RV.tr J3 r v (Ref.all r) hv', J4⟩
end
end Go.Pm
