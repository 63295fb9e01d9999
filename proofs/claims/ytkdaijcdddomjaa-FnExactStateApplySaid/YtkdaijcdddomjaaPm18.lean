/- The abstract machine: freezing, and what a function hands back. -/
import Derived.Test.YtkdaijcdddomjaaPm17
set_option linter.unusedVariables false
set_option linter.unusedSimpArgs false
namespace Go.Pm
open Go.RowKit

section
variable {w : World} {Zo : Nat → Prop} {m : List Ob} {β : List Lc}
/-- Objects qs are frozen, and told by what they hold. -/
theorem SW.freeze {P : Program} {c : Code} {st : St} {Q : Exit → St → Prop} (qs : List Nat) (h : SW P c ⟨convs (frzM qs st.m) st.t, frzM qs st.m, convs (frzM qs st.m) st.g⟩ Q) : SW P c st Q := by
  intro w0 E Zo gh a w ⟨β, M, h1, h2, h3, h4, h5⟩
  obtain ⟨M1, hle, hl⟩ := M.frz qs
  exact h w0 E Zo gh a w ⟨β, M1, fun b hb => h1 b (hl b hb), h2, h3, convs_sound M1 _ _ (h4.mono hle), convs_sound M1 _ _ (h5.mono hle)⟩

/-! ### what is handed back -/
/-- The objects ks alone, numbered anew. -/
theorem Mem.keep (M : Mem w Zo m β) (ks : List Nat) (hn : ks.Nodup) (hlt : ∀ q ∈ ks, q < m.length) (hp : ∀ q ∈ ks, (m.getD q .hole).pure) :
    ∃ β', Mem w Zo (ks.map fun q => m.getD q .hole) β' ∧ Tr (cx w Zo m β) (cx w Zo (ks.map fun q => m.getD q .hole) β') (idx ks) (fun q => q ∈ ks) ∧
      (∀ b, liveAt (ks.map fun q => m.getD q .hole) β' b → liveAt m β b) := by
  have g1 : ∀ (j : Nat) (ob : Ob), (ks.map fun q => m.getD q .hole)[j]? = some ob → ∃ q, ks[j]? = some q ∧ m[q]? = some ob := by
    intro j ob h
    rw [List.getElem?_map] at h
    cases hk : ks[j]? with
    | none => rw [hk] at h; cases h
    | some q =>
      rw [hk] at h
      have hq := hlt q (List.mem_of_getElem? hk)
      refine ⟨q, rfl, ?_⟩
      rw [List.getElem?_eq_getElem hq]
      simp only [Option.map_some, Option.some.injEq] at h
      rw [List.getD_eq_getElem?_getD, List.getElem?_eq_getElem hq] at h
      simpa using h
  have g2 : ∀ (j : Nat) (l : Lc) (q : Nat), ks[j]? = some q → (ks.map fun q => β.getD q ⟨0, 0⟩)[j]? = some l → β[q]? = some l := by
    intro j l q hk h
    have hq := hlt q (List.mem_of_getElem? hk)
    rw [List.getElem?_map, hk] at h
    simp only [Option.map_some, Option.some.injEq] at h
    rw [List.getD_eq_getElem?_getD, List.getElem?_eq_getElem (by rw [M.len]; exact hq)] at h
    rw [List.getElem?_eq_getElem (by rw [M.len]; exact hq)]
    simpa using h
  have hlive : ∀ b, liveAt (ks.map fun q => m.getD q .hole) (ks.map fun q => β.getD q ⟨0, 0⟩) b → liveAt m β b := by
    rintro b ⟨j, ob, l, h1, h2, h3⟩
    obtain ⟨q, hk, hm⟩ := g1 j ob h1
    exact ⟨q, ob, l, hm, g2 j l q hk h2, h3⟩
  have hfz : ∀ b, (cx w Zo m β).fz b → (cx w Zo (ks.map fun q => m.getD q .hole) (ks.map fun q => β.getD q ⟨0, 0⟩)).fz b :=
    fun b h => ⟨h.1, fun hz => h.2 (hz.imp id (hlive b))⟩
  have htr : Tr (cx w Zo m β) (cx w Zo (ks.map fun q => m.getD q .hole) (ks.map fun q => β.getD q ⟨0, 0⟩)) (idx ks) (fun q => q ∈ ks) := by
    refine ⟨fun b h => ⟨hfz b h, rfl⟩, fun q hq => ?_⟩
    have hk := idx_get hq
    have hql := hlt q hq
    have e1 : (ks.map fun q => m.getD q .hole)[idx ks q]? = m[q]? := by
      rw [List.getElem?_map, hk, List.getElem?_eq_getElem hql]
      simp [List.getD_eq_getElem?_getD, hql]
    have e2 : (ks.map fun q => β.getD q ⟨0, 0⟩)[idx ks q]? = β[q]? := by
      have hql' : q < β.length := by rw [M.len]; exact hql
      rw [List.getElem?_map, hk, List.getElem?_eq_getElem hql']
      simp [List.getD_eq_getElem?_getD, hql']
    show obLe m[q]? β[q]? (ks.map fun q => m.getD q .hole)[idx ks q]? (ks.map fun q => β.getD q ⟨0, 0⟩)[idx ks q]?
    rw [e1, e2]
    exact obLe_refl _ _
  refine ⟨ks.map fun q => β.getD q ⟨0, 0⟩, ⟨by simp, ?_, ?_, fun b h => M.out b (hlive b h), M.zlt⟩, htr, hlive⟩
  · intro j ob l h1 h2
    obtain ⟨q, hk, hm⟩ := g1 j ob h1
    have hβ := g2 j l q hk h2
    have hok := M.ok q ob l hm hβ
    have hpu := hp q (List.mem_of_getElem? hk)
    rw [List.getD_eq_getElem?_getD, hm] at hpu
    have htr0 : Tr (cx w Zo m β) (cx w Zo (ks.map fun q => m.getD q .hole) (ks.map fun q => β.getD q ⟨0, 0⟩)) (idx ks) (fun _ => False) := ⟨htr.fz, fun _ h => h.elim⟩
    cases ob with
    | hole => trivial
    | dead => trivial
    | box lv cs =>
      obtain ⟨us, e, fr, k1, k2, k3, k4, k5⟩ := hok
      refine ⟨us, e, fr, k1, k2, k3, ?_, k5.imp id (hfz _)⟩
      have := RC.tr htr0 l.b rfl cs 0 hpu k4
      rwa [rens_pure cs hpu] at this
    | arr lv sz xs =>
      obtain ⟨k1, k2, k3, k4⟩ := hok
      refine ⟨k1, k2, k3, k4.imp id ?_⟩
      rintro ⟨us, e, fr, q1, q2, q3, q4, q5⟩
      refine ⟨us, e, fr, q1, q2, q3, ?_, q5.imp id (hfz _)⟩
      have := RR.tr htr0 sz l.b rfl xs 0 hpu q4
      rwa [renss_pure xs hpu] at this
    | mp lv ks' vs =>
      obtain ⟨es, n, k1, k2, k3, k4⟩ := hok
      refine ⟨es, n, k1, ?_, ?_, k4.imp id (hfz _)⟩
      · have := RVs.tr htr0 ks' _ hpu.1 k2
        rwa [rens_pure ks' hpu.1] at this
      · have := RVs.tr htr0 vs _ hpu.2 k3
        rwa [rens_pure vs hpu.2] at this
  · intro j j' ob ob' l l' b h1 h2 h3 h4 h5 h6
    obtain ⟨q, hk, hm⟩ := g1 j ob h1
    obtain ⟨q', hk', hm'⟩ := g1 j' ob' h2
    have e := M.sep q q' ob ob' l l' b hm hm' (g2 j l q hk h3) (g2 j' l' q' hk' h4) h5 h6
    subst e
    exact (List.getElem?_inj (List.getElem?_eq_some_iff.1 hk).1 hn).1 (hk.trans hk'.symm)
end

theorem frzM_other : ∀ (qs : List Nat) (m : List Ob) (q : Nat), q ∉ qs → (frzM qs m)[q]? = m[q]?
  | [], m, q, _ => rfl
  | p :: qs, m, q, h => by
    simp only [frzM]
    rw [frzM_other qs _ q (fun h' => h (List.mem_cons_of_mem _ h'))]
    unfold Pm.frz1
    split
    · rw [List.getElem?_set_ne (fun e => h (by rw [e]; exact List.mem_cons_self))]
    · rfl
/-- The results, one by one. -/
def resV (P : Program) (st : St) : List ResultVar → List V → (List V → Prop) → Prop
  | [], acc, K => K acc
  | .tmp t :: rs, acc, K => resV P st rs (acc ++ [st.t.getD t .junk]) K
  | .cell a t :: rs, acc, K => ldVC P t st.m (st.t.getD a .junk) (fun x => resV P st rs (acc ++ [x]) K)
def packV : List V → V
  | [x] => x
  | xs => .tup xs
/-- What a function hands back: the objects ks stay as they are, all others are frozen. -/
def retVC (P : Program) (fn : Func) (ks : List Nat) (st : St) (r : V) (mr : List Ob) : Prop :=
  ks.Nodup ∧ (∀ q ∈ ks, q < st.m.length) ∧ (∀ q ∈ ks, (st.m.getD q .hole).pure) ∧ mr = (ks.map fun q => st.m.getD q .hole) ∧
    resV P st fn.results.toList [] (fun xs => Ref (fun q => q ∈ ks) (conv (frzM ((List.range st.m.length).filter fun q => !ks.contains q) st.m) (packV xs)) ∧
      r = (conv (frzM ((List.range st.m.length).filter fun q => !ks.contains q) st.m) (packV xs)).ren (idx ks))
section
variable {P : Program}
theorem ld_sound {w : World} {Zo : Nat → Prop} {m : List Ob} {β : List Lc} {t : TypeId} {x : V} {v : Value} {K : V → Prop} (M : Mem w Zo m β) (h : ldVC P t m x K) (hv : RV (cx w Zo m β) x v) :
    ∃ r, K r ∧ ∃ A, v = .pointer (some A) ∧ ∃ u, (Go.loadVar t A).run P w = .ok u w ∧ RV (cx w Zo m β) r u := by
  unfold ldVC at h
  split at h
  · rename_i sz ag hl
    split at h
    · rename_i p off
      split at h
      · rename_i lv cs hT
        obtain ⟨hm, l, _, ⟨us, e, fr, _, _, _, hrc, _⟩, e2⟩ := at_ptr M (Agree.refl m) hT hv (by simp)
        have := hrc.drop off
        rw [Nat.zero_add] at this
        obtain ⟨r, h1, u, h2, h3⟩ := rd_sound (P := P) (c := cx w Zo m β) hl this h
        exact ⟨r, h1, _, e2, u, h2, h3⟩
      · exact h.elim
    · rename_i p i off
      split at h
      · rename_i lv sz' xs hT
        obtain ⟨hi, h⟩ := h
        obtain ⟨hm, l, _, ⟨g1, g2, g3, g4⟩, e2⟩ := at_eptr M (Agree.refl m) hT hv
        rcases g4 with g4 | ⟨us, e, fr, _, _, _, hrr, _⟩
        · omega
        have := (hrr.at_ hi).drop off
        rw [Nat.zero_add] at this
        obtain ⟨r, h1, u, h2, h3⟩ := rd_sound (P := P) (c := cx w Zo m β) hl this h
        exact ⟨r, h1, _, e2, u, h2, h3⟩
      · exact h.elim
    · rename_i sz' xs i off
      obtain ⟨hi, h⟩ := h
      obtain ⟨b, p, e2, _, hrr⟩ := hv
      obtain ⟨r, h1, u, h2, h3⟩ := rd_sound (P := P) (c := cx w Zo m β) hl ((hrr.at_ hi).drop off) h
      exact ⟨r, h1, _, e2, u, h2, h3⟩
    · rename_i cs off
      obtain ⟨b, e2, _, hrc⟩ := hv
      have := hrc.drop off
      rw [Nat.zero_add] at this
      obtain ⟨r, h1, u, h2, h3⟩ := rd_sound (P := P) (c := cx w Zo m β) hl this h
      exact ⟨r, h1, _, e2, u, h2, h3⟩
    · exact h.elim
  · exact h.elim
def oneRes (tmps : Array Value) : ResultVar → Sem Value
  | .tmp t => pure (tmps.getD t undef)
  | .cell a t => do loadVar t (← asAddr (tmps.getD a undef))
theorem results_eq (fn : Func) (tmps : Array Value) : results fn tmps = (do
    let vs ← fn.results.mapM (oneRes tmps)
    pure (if h : vs.size = 1 then vs[0] else .tuple vs)) := by
  unfold results
  congr 1
theorem RVs.one {c : Cx} {x : V} {u : Value} (h : RV c x u) : RVs c [x] [u] := ⟨u, [], rfl, h, rfl⟩
theorem res_sound {w : World} {Zo : Nat → Prop} {β : List Lc} {st : St} {tmps : Array Value} (M : Mem w Zo st.m β) (ht : RVs (cx w Zo st.m β) st.t tmps.toList) :
    ∀ (rs : List ResultVar) (acc : List V) (K : List V → Prop) (us : List Value), RVs (cx w Zo st.m β) acc us → resV P st rs acc K →
      ∃ xs vs, K xs ∧ RVs (cx w Zo st.m β) xs (us ++ vs) ∧ (rs.mapM (oneRes tmps)).run P w = .ok vs w
  | [], acc, K, us, h, k => ⟨acc, [], k, by simpa using h, by simp⟩
  | .tmp t :: rs, acc, K, us, h, k => by
    have hv := ht.getD t undef
    have h2 : tmps.toList.getD t undef = tmps.getD t undef := by simp
    rw [h2] at hv
    obtain ⟨xs, vs, h3, h4, h5⟩ := res_sound M ht rs _ K (us ++ [tmps.getD t undef]) (h.append (RVs.one hv)) k
    refine ⟨xs, tmps.getD t undef :: vs, h3, by simpa using h4, ?_⟩
    simp only [List.mapM_cons, Sem.run_bind, oneRes, Sem.run_pure, Result.andThen_ok, h5]
  | .cell a t :: rs, acc, K, us, h, k => by
    have hv := ht.getD a undef
    have h2 : tmps.toList.getD a undef = tmps.getD a undef := by simp
    rw [h2] at hv
    obtain ⟨r, k1, A, e, u, h6, h7⟩ := ld_sound M k hv
    obtain ⟨xs, vs, h3, h4, h5⟩ := res_sound M ht rs _ K (us ++ [u]) (h.append (RVs.one h7)) k1
    refine ⟨xs, u :: vs, h3, by simpa using h4, ?_⟩
    simp only [List.mapM_cons, Sem.run_bind, oneRes, e]
    simp [asAddr, h6, h5]
theorem pack_sound {c : Cx} {xs : List V} {vs : List Value} (h : RVs c xs vs) : RV c (packV xs) (if h : vs.toArray.size = 1 then vs.toArray[0] else .tuple vs.toArray) := by
  have hl := h.length
  match xs, h with
  | [x], ⟨u, us', e, h1, h2⟩ =>
    have h2 : us' = [] := h2
    subst h2; subst e
    simpa [packV] using h1
  | [], h =>
    have h' : vs = [] := h
    subst h'
    simp only [List.size_toArray, List.length_nil, Nat.zero_ne_one, dite_false, packV]
    exact ⟨#[], rfl, h⟩
  | x :: y :: xs, h =>
    have : ¬ vs.toArray.size = 1 := by simp at hl ⊢; omega
    rw [dif_neg this]
    exact ⟨vs.toArray, rfl, by simpa using h⟩
/-- A function's contract, out of its triple. -/
theorem Contract.of {f : FuncId} {fn : Func} {c : Code} {args : List V} {r : V} {mr : List Ob} (hf : P.funcs[f]? = some fn) (hb : fn.body = some c)
    (h : SW P c ⟨args ++ List.replicate (fn.ntmps - args.length) .junk, [], []⟩ (fun e st => e = .ret ∧ ∃ ks, retVC P fn ks st r mr)) : Contract P f args r mr := by
  intro w Zo us hz hargs
  have hlen := hargs.length
  refine calls_of_wp hf hb ?_
  have M0 : Mem w Zo [] [] := ⟨rfl, fun o ob l h => by simp at h, fun o o' ob ob' l l' b h => by simp at h, fun b ⟨o, ob, l, h, _⟩ => by simp at h, hz⟩
  have hrep : ∀ n, RVs (cx w Zo [] []) (List.replicate n .junk) (List.replicate n undef) := by
    intro n
    induction n with
    | zero => rfl
    | succ n ih => exact ⟨undef, List.replicate n undef, rfl, trivial, ih⟩
  refine wp_mono (h w (fun _ => False) Zo [] _ w ⟨[], M0, fun b ⟨o, ob, l, h, _⟩ => by simp at h, Frame.refl _ w, rfl, ?_, rfl⟩) ?_
  · have := hargs.append (hrep (fn.ntmps - args.length))
    simpa [hlen] using this
  · rintro e a' w' ⟨st', ⟨rfl, ks, hk⟩, β, M, h1, h2, h3, h4, _⟩
    obtain ⟨k1, k2, k3, k4, k5⟩ := hk
    subst k4
    obtain ⟨xs, vs, ⟨q1, q2⟩, q3, q4⟩ := res_sound (P := P) M h4 fn.results.toList [] _ [] rfl k5
    have hres : (results fn a'.tmps).run P w' = .ok (if h : vs.toArray.size = 1 then vs.toArray[0] else .tuple vs.toArray) w' := by
      rw [results_eq, Array.mapM_eq_mapM_toList]
      simp [Sem.run_bind, q4]
    obtain ⟨M1, hle, hl⟩ := M.frz ((List.range st'.m.length).filter fun q => !ks.contains q)
    have hsame : ∀ q ∈ ks, (frzM ((List.range st'.m.length).filter fun q => !ks.contains q) st'.m)[q]? = st'.m[q]? := by
      intro q hq
      refine frzM_other _ _ q (fun h => ?_)
      have := (List.mem_filter.1 h).2
      simp [hq] at this
    have hgd : ∀ q ∈ ks, (frzM ((List.range st'.m.length).filter fun q => !ks.contains q) st'.m).getD q .hole = st'.m.getD q .hole := by
      intro q hq
      rw [List.getD_eq_getElem?_getD, List.getD_eq_getElem?_getD, hsame q hq]
    obtain ⟨β', M2, htr, hl2⟩ := M1.keep ks k1 (fun q hq => by rw [frzM_length]; exact k2 q hq) (fun q hq => by rw [hgd q hq]; exact k3 q hq)
    have hmr : (ks.map fun q => (frzM ((List.range st'.m.length).filter fun q => !ks.contains q) st'.m).getD q .hole) = ks.map fun q => st'.m.getD q .hole :=
      List.map_congr_left hgd
    rw [hmr] at M2 htr hl2
    have hv := conv_sound M1 _ _ ((pack_sound q3).mono hle)
    have hv2 := RV.tr htr _ _ q1 hv
    rw [← q2] at hv2
    refine ⟨h3, _, hres, _, β', rfl, ?_, M2, by simpa using hv2, fun b hb => ?_⟩
    · exact h2
    · rcases h1 b (hl b (hl2 b hb)) with h | h
      · exact h.elim
      · exact h
end
end Go.Pm
