/- The abstract machine: contracts of functions that hand back values alone. -/
import Derived.Test.YtkdaijcdddomjaaPm20
set_option linter.unusedVariables false
set_option linter.unusedSimpArgs false
namespace Go.Pm
open Go.RowKit

theorem Ob.still_still (ob : Ob) : ob.still.still = ob.still := by cases ob <;> rfl
theorem frzM_get : ∀ (qs : List Nat) (m : List Ob) (q : Nat), (frzM qs m)[q]? = if q ∈ qs then m[q]?.map Ob.still else m[q]?
  | [], m, q => by simp [frzM]
  | p :: qs, m, q => by
    simp only [frzM]
    rw [frzM_get qs]
    have h : (frz1 m p)[q]? = if p = q then m[q]?.map Ob.still else m[q]? := by
      unfold frz1
      by_cases e : p = q
      · subst e
        simp only [if_true]
        cases hm : m[p]? with
        | none => simp [hm]
        | some ob =>
          simp only [Option.map_some]
          rw [List.getElem?_set_self (List.getElem?_eq_some_iff.1 hm).1]
      · simp only [e, if_false]
        split
        · rw [List.getElem?_set_ne e]
        · rfl
    rw [h]
    by_cases e : p = q
    · subst e
      simp only [if_true, List.mem_cons, true_or]
      split
      · cases m[p]? <;> simp [Ob.still_still]
      · rfl
    · have e' : ¬ q = p := fun h => e h.symm
      simp [e, e']
theorem frzM_all (m : List Ob) : frzM ((List.range m.length).filter fun q => !([] : List Nat).contains q) m = m.map Ob.still := by
  apply List.ext_getElem?
  intro q
  rw [frzM_get, List.getElem?_map]
  by_cases h : q < m.length
  · rw [if_pos (by simp [h])]
  · rw [if_neg (by simp [h]), List.getElem?_eq_none (by omega)]; rfl

/-! ### lists by eights: fewer steps to a place -/
def r8 {α : Type} (a0 a1 a2 a3 a4 a5 a6 a7 : α) (l : List α) : List α := a0 :: a1 :: a2 :: a3 :: a4 :: a5 :: a6 :: a7 :: l
def mk8 {α : Type} (l : List α) : List α := l
section
variable {α : Type} {a0 a1 a2 a3 a4 a5 a6 a7 x d : α} {l : List α} {n : Nat}
theorem r8_set0 : (r8 a0 a1 a2 a3 a4 a5 a6 a7 l).set 0 x = r8 x a1 a2 a3 a4 a5 a6 a7 l := nr rfl
theorem r8_get0 : (r8 a0 a1 a2 a3 a4 a5 a6 a7 l).getD 0 d = a0 := nr rfl
theorem r8_set1 : (r8 a0 a1 a2 a3 a4 a5 a6 a7 l).set 1 x = r8 a0 x a2 a3 a4 a5 a6 a7 l := nr rfl
theorem r8_get1 : (r8 a0 a1 a2 a3 a4 a5 a6 a7 l).getD 1 d = a1 := nr rfl
theorem r8_set2 : (r8 a0 a1 a2 a3 a4 a5 a6 a7 l).set 2 x = r8 a0 a1 x a3 a4 a5 a6 a7 l := nr rfl
theorem r8_get2 : (r8 a0 a1 a2 a3 a4 a5 a6 a7 l).getD 2 d = a2 := nr rfl
theorem r8_set3 : (r8 a0 a1 a2 a3 a4 a5 a6 a7 l).set 3 x = r8 a0 a1 a2 x a4 a5 a6 a7 l := nr rfl
theorem r8_get3 : (r8 a0 a1 a2 a3 a4 a5 a6 a7 l).getD 3 d = a3 := nr rfl
theorem r8_set4 : (r8 a0 a1 a2 a3 a4 a5 a6 a7 l).set 4 x = r8 a0 a1 a2 a3 x a5 a6 a7 l := nr rfl
theorem r8_get4 : (r8 a0 a1 a2 a3 a4 a5 a6 a7 l).getD 4 d = a4 := nr rfl
theorem r8_set5 : (r8 a0 a1 a2 a3 a4 a5 a6 a7 l).set 5 x = r8 a0 a1 a2 a3 a4 x a6 a7 l := nr rfl
theorem r8_get5 : (r8 a0 a1 a2 a3 a4 a5 a6 a7 l).getD 5 d = a5 := nr rfl
theorem r8_set6 : (r8 a0 a1 a2 a3 a4 a5 a6 a7 l).set 6 x = r8 a0 a1 a2 a3 a4 a5 x a7 l := nr rfl
theorem r8_get6 : (r8 a0 a1 a2 a3 a4 a5 a6 a7 l).getD 6 d = a6 := nr rfl
theorem r8_set7 : (r8 a0 a1 a2 a3 a4 a5 a6 a7 l).set 7 x = r8 a0 a1 a2 a3 a4 a5 a6 x l := nr rfl
theorem r8_get7 : (r8 a0 a1 a2 a3 a4 a5 a6 a7 l).getD 7 d = a7 := nr rfl
theorem r8_setn : (r8 a0 a1 a2 a3 a4 a5 a6 a7 l).set (n + 8) x = r8 a0 a1 a2 a3 a4 a5 a6 a7 (l.set n x) := nr rfl
theorem r8_getn : (r8 a0 a1 a2 a3 a4 a5 a6 a7 l).getD (n + 8) d = l.getD n d := nr rfl
theorem mk8_r : mk8 (a0 :: a1 :: a2 :: a3 :: a4 :: a5 :: a6 :: a7 :: l) = r8 a0 a1 a2 a3 a4 a5 a6 a7 (mk8 l) := nr rfl
theorem mk8_0 : mk8 ([] : List α) = [] := nr rfl
theorem mk8_1 : mk8 ([a0] : List α) = [a0] := nr rfl
theorem mk8_2 : mk8 ([a0, a1] : List α) = [a0, a1] := nr rfl
theorem mk8_3 : mk8 ([a0, a1, a2] : List α) = [a0, a1, a2] := nr rfl
theorem mk8_4 : mk8 ([a0, a1, a2, a3] : List α) = [a0, a1, a2, a3] := nr rfl
theorem mk8_5 : mk8 ([a0, a1, a2, a3, a4] : List α) = [a0, a1, a2, a3, a4] := nr rfl
theorem mk8_6 : mk8 ([a0, a1, a2, a3, a4, a5] : List α) = [a0, a1, a2, a3, a4, a5] := nr rfl
theorem mk8_7 : mk8 ([a0, a1, a2, a3, a4, a5, a6] : List α) = [a0, a1, a2, a3, a4, a5, a6] := nr rfl
end
def wk1 (ks : List Nat) (x y : V) : Prop := y = .junk ∨ (Ref (· ∈ ks) x ∧ y = x.ren (idx ks))
theorem wk1_junk {ks : List Nat} {x : V} : wk1 ks x .junk = True := by simp [wk1]
theorem wk1_v {ks : List Nat} {x y : V} (h : y ≠ .junk) : wk1 ks x y = (Ref (· ∈ ks) x ∧ y = x.ren (idx ks)) := by simp [wk1, h]
theorem wkT_r8 {ks : List Nat} {a0 a1 a2 a3 a4 a5 a6 a7 b0 b1 b2 b3 b4 b5 b6 b7 : V} {l l' : List V} : wkT ks (r8 a0 a1 a2 a3 a4 a5 a6 a7 l) (r8 b0 b1 b2 b3 b4 b5 b6 b7 l') = (wk1 ks a0 b0 ∧ wk1 ks a1 b1 ∧ wk1 ks a2 b2 ∧ wk1 ks a3 b3 ∧ wk1 ks a4 b4 ∧ wk1 ks a5 b5 ∧ wk1 ks a6 b6 ∧ wk1 ks a7 b7 ∧ wkT ks l l') := by
  simp only [r8, wkT, wk1, and_assoc]
/-- What a function hands back, where all its objects are frozen. -/
def fin (P : Program) (rs : List ResultVar) (r : V) (e : Exit) (st : St) : Prop :=
  e = .ret ∧ resV P st rs [] (fun xs => Ref (fun _ => False) (convR st.m (packV xs)) ∧ convR st.m (packV xs) = r)
theorem resV_mono {P : Program} {st : St} : ∀ (rs : List ResultVar) {acc : List V} {K K' : List V → Prop}, (∀ xs, K xs → K' xs) → resV P st rs acc K → resV P st rs acc K'
  | [], acc, K, K', h, k => h _ k
  | .tmp t :: rs, acc, K, K', h, k => resV_mono rs h k
  | .cell a t :: rs, acc, K, K', h, k => by
    unfold resV at k ⊢
    have : ∀ (x : V) (K1 K2 : V → Prop), (∀ r, K1 r → K2 r) → ldVC P t st.m x K1 → ldVC P t st.m x K2 := by
      intro x K1 K2 h12 h3
      rw [ldVC_eq] at h3 ⊢
      unfold oP at h3 ⊢
      split
      · rename_i p1 p2 hp
        rw [hp] at h3
        simp only at h3
        have rd : ∀ (ag : Bool) (sz : Nat) (cs : List V), rdVC ag sz cs K1 → rdVC ag sz cs K2 := by
          intro ag sz cs h4
          unfold rdVC at h4 ⊢
          cases ag <;> simp only [if_true, if_false, Bool.false_eq_true] at h4 ⊢ <;> exact ⟨h4.1, h12 _ h4.2⟩
        unfold ldX at h3 ⊢
        split at h3 <;> first | exact h3.elim | skip
        · unfold oB at h3 ⊢; split at h3
          · exact rd _ _ _ h3
          · exact h3.elim
        · unfold oB at h3 ⊢; split at h3
          · simp only at h3 ⊢
            split at h3
            · exact rd _ _ _ h3
            · exact h3.elim
          · exact h3.elim
        · unfold oB at h3 ⊢; split at h3
          · exact rd _ _ _ h3
          · exact h3.elim
        · exact rd _ _ _ h3
      · rename_i hp
        rw [hp] at h3
        exact h3
    exact this _ _ _ (fun r => resV_mono rs h) k
/-- A function that hands back a value, and nothing that may be written. -/
structure Con (P : Program) (f : FuncId) (args : List V) (r : V) : Prop where
  ok : bodyOK P f = true
  pr : Ref (fun _ => False) r
  c : Contract P f args r []
section
variable {P : Program}
theorem name_of_call {f : FuncId} {fn : Func} (hf : P.funcs[f]? = some fn) (h : ∀ (args : Array Value) (w : World), (callFunc f args).run P w = .ok (.enter f args) w) : (fn.name == "runtime.NumGoroutine") = false := by
  cases hn : (fn.name == "runtime.NumGoroutine") with
  | false => rfl
  | true =>
    have := h #[] default
    rw [beq_iff_eq] at hn
    simp [callFunc, hf, hn] at this
theorem Con.ofS {f : FuncId} {fn : Func} {c : Code} {args : List V} {r : V} {rs : List ResultVar} {n : Nat} (hf : P.funcs[f]? = some fn) (hb : fn.body = some c) (hcall : ∀ (args : Array Value) (w : World), (callFunc f args).run P w = .ok (.enter f args) w)
    (hr : fn.results = rs.toArray) (hn : fn.ntmps = n) (hp : Ref (fun _ => False) r)
    (h : SW P c ⟨mk8 (args ++ List.replicate (n - args.length) .junk), [], []⟩ (fin P rs r)) : Con P f args r := by
  have hname := name_of_call hf hcall
  subst hn
  have hr : fn.results.toList = rs := by rw [hr]
  subst hr
  refine ⟨?_, hp, ?_⟩
  · unfold bodyOK
    rw [hf]
    simp [hb, hname]
  · refine Contract.of hf hb (h.mono ?_)
    rintro e st ⟨he, hk⟩
    refine ⟨he, [], List.nodup_nil, by simp, by simp, rfl, resV_mono _ ?_ hk⟩
    rintro xs ⟨k1, k2⟩
    unfold convR at k1 k2
    rw [frzM_all]
    refine ⟨Ref.mono (fun _ h => h.elim) _ k1, ?_⟩
    rw [V.ren_pure _ k1]
    exact k2.symm
theorem Con.of {f : FuncId} {fn : Func} {c : Code} {args : List V} {r : V} {rs : List ResultVar} {n : Nat} (hf : P.funcs[f]? = some fn) (hb : fn.body = some c) (hcall : ∀ (args : Array Value) (w : World), (callFunc f args).run P w = .ok (.enter f args) w)
    (hr : fn.results = rs.toArray) (hn : fn.ntmps = n) (hp : Ref (fun _ => False) r)
    (h : CW P c ⟨mk8 (args ++ List.replicate (n - args.length) .junk), [], []⟩ (fin P rs r)) : Con P f args r := Con.ofS hf hb hcall hr hn hp (CW.sound h)
theorem callVC.con {f : FuncId} {xs : List V} {m : List Ob} {b : Nat} {K : V → List Ob → Prop} {r : V} (h : Con P f xs r) (hp : Refs (fun _ => False) xs) (k : K r []) : callVC P f xs m b K :=
  ⟨r, [], .inl ⟨h.c, hp⟩, fun ob h => by simp at h, h.ok, by rw [V.ren_pure r h.pr]; exact k⟩
theorem callVC.conF {f : FuncId} {xs xs' : List V} {m : List Ob} {b : Nat} {K : V → List Ob → Prop} {r : V} (h : Con P f xs' r) (e : convRs m xs = xs') (hp : Refs (fun _ => False) xs') (hr : Flat r) (k : K r []) : callVC P f xs m b K :=
  ⟨r, [], .inr (by subst e; exact ⟨h.c, hp, hr, fun ob h => by simp at h⟩), fun ob h => by simp at h, h.ok, by rw [V.ren_pure r h.pr]; exact k⟩
/-- A function that hands back new objects. -/
structure NCon (P : Program) (f : FuncId) (args : List V) (r : V) (mr : List Ob) : Prop where
  ok : bodyOK P f = true
  pu : ∀ ob ∈ mr, ob.pure
  c : Contract P f args r mr
theorem callVC.new {f : FuncId} {xs : List V} {m mr : List Ob} {b : Nat} {K : V → List Ob → Prop} {r : V} (h : NCon P f xs r mr) (hp : Refs (fun _ => False) xs) (k : K (r.ren fun q => b + q) mr) : callVC P f xs m b K :=
  ⟨r, mr, .inl ⟨h.c, hp⟩, h.pu, h.ok, k⟩
theorem callVC.newF {f : FuncId} {xs xs' : List V} {m mr : List Ob} {b : Nat} {K : V → List Ob → Prop} {r : V} (h : NCon P f xs' r mr) (e : convRs m xs = xs') (hp : Refs (fun _ => False) xs') (hr : Flat r) (hfl : ∀ ob ∈ mr, ob.flat) (k : K (r.ren fun q => b + q) mr) : callVC P f xs m b K :=
  ⟨r, mr, .inr (by subst e; exact ⟨h.c, hp, hr, hfl⟩), h.pu, h.ok, k⟩
/-- A function that writes what the caller holds. -/
structure LCon (P : Program) (f : FuncId) (args : List V) (m : List Ob) (r : V) (m' : List Ob) : Prop where
  ok : bodyOK P f = true
  c : CT P f args m r m'
/-- A new object for nil. -/
def LRes (m0 m : List Ob) (g : List V) (x r : V) (m' : List Ob) : Prop :=
  (∃ ks, Wk ks ⟨[x], m, g⟩ ⟨[r], m', plc 0 m0⟩) ∨ (x = .nil ∧ m0 = [] ∧ ∃ sz, 0 < sz ∧ r = .ar 0 0 0 ∧ m' = [.arr true sz []])
class LR where
  m0 : List Ob
  r : V
  m' : List Ob
def LResY (m : List Ob) (g : List V) (x : V) [lr : LR] : Prop := LRes lr.m0 m g x lr.r lr.m'
@[congr] theorem LResY_congr {m m1 : List Ob} {g g1 : List V} {x x1 : V} [lr : LR] (h1 : m = m1) (h2 : g = g1) (h3 : x = x1) : LResY m g x = LResY m1 g1 x1 := by rw [h1, h2, h3]
theorem LResY.mk {m0 m : List Ob} {g : List V} {x r : V} {m' : List Ob} (ks : List Nat) (h : Wk ks ⟨[x], m, g⟩ ⟨[r], m', plc 0 m0⟩) : @LResY m g x ⟨m0, r, m'⟩ := .inl ⟨ks, h⟩
theorem LResY.nil {m : List Ob} {g : List V} {sz : Nat} (h : 0 < sz) : @LResY m g .nil ⟨[], .ar 0 0 0, [.arr true sz []]⟩ := .inr ⟨rfl, rfl, sz, h, rfl, rfl⟩
def isEnd : Exit → Prop
  | .ret => True
  | .normal => True
  | _ => False
def finL (P : Program) (rs : List ResultVar) (m0 : List Ob) (r : V) (m' : List Ob) (e : Exit) (st : St) : Prop :=
  isEnd e ∧ resV P st rs [] (fun xs => @LResY st.m st.g (packV xs) ⟨m0, r, m'⟩)
theorem finL_ret {st : St} {rs : List ResultVar} {m0 : List Ob} {r : V} {m' : List Ob} : finL P rs m0 r m' .ret st = resV P st rs [] (fun xs => @LResY st.m st.g (packV xs) ⟨m0, r, m'⟩) := by simp [finL, isEnd]
theorem finL_n {st : St} {rs : List ResultVar} {m0 : List Ob} {r : V} {m' : List Ob} : finL P rs m0 r m' .normal st = resV P st rs [] (fun xs => @LResY st.m st.g (packV xs) ⟨m0, r, m'⟩) := by simp [finL, isEnd]
theorem finL_p {st : St} {rs : List ResultVar} {m0 : List Ob} {r : V} {m' : List Ob} {c : List PanicEntry} (h : finL P rs m0 r m' (.panic c) st) : False := h.1
theorem fin_p {st : St} {rs : List ResultVar} {r : V} {c : List PanicEntry} (h : fin P rs r (.panic c) st) : False := by cases h.1
theorem LCon.ofS {f : FuncId} {fn : Func} {c : Code} {args : List V} {m0 : List Ob} {r : V} {m' : List Ob} {rs : List ResultVar} {n : Nat} (hf : P.funcs[f]? = some fn) (hb : fn.body = some c) (hcall : ∀ (args : Array Value) (w : World), (callFunc f args).run P w = .ok (.enter f args) w)
    (hr : fn.results = rs.toArray) (hn : fn.ntmps = n)
    (h : SW P c ⟨mk8 (args ++ List.replicate (n - args.length) .junk), m0, plc 0 m0⟩ (finL P rs m0 r m')) : LCon P f args m0 r m' := by
  have hname := name_of_call hf hcall
  subst hn
  have hr : fn.results.toList = rs := by rw [hr]
  subst hr
  refine ⟨?_, ?_⟩
  · unfold bodyOK
    rw [hf]
    simp [hb, hname]
  intro w Zo β us M hargs
  have hlen := hargs.length
  refine calls_of_wp hf hb ?_
  have hrep : ∀ n, RVs (cx w Zo m0 β) (List.replicate n .junk) (List.replicate n undef) := by
    intro n
    induction n with
    | zero => rfl
    | succ n ih => exact ⟨undef, List.replicate n undef, rfl, trivial, ih⟩
  refine wp_mono (h w (liveAt m0 β) Zo (plv m0 β) _ w ⟨β, M, fun b hb => .inl hb, Frame.refl _ w, rfl, ?_, plc_in m0 β 0 M.len (fun i ob hi => by rw [Nat.zero_add]; exact hi) (fun i l hi => by rw [Nat.zero_add]; exact hi)⟩) ?_
  · have := hargs.append (hrep (fn.ntmps - args.length))
    simpa [hlen, mk8] using this
  · rintro e a' w' ⟨st', ⟨he, hk⟩, β1, M1, h1, h2, h3, h4, h5⟩
    obtain ⟨xs, vs, q, q3, q4⟩ := res_sound (P := P) M1 h4 fn.results.toList [] _ [] rfl hk
    have hres : (results fn a'.tmps).run P w' = .ok (if h : vs.toArray.size = 1 then vs.toArray[0] else .tuple vs.toArray) w' := by
      rw [results_eq, Array.mapM_eq_mapM_toList]
      simp [Sem.run_bind, q4]
    rw [List.nil_append] at q3
    have hv := pack_sound q3
    generalize hvv : (if h : vs.toArray.size = 1 then vs.toArray[0] else Value.tuple vs.toArray) = v at hres hv
    suffices key : bodyPost P fn (fun e w' => ∃ v β', e = .returned v ∧ Frame (liveAt m0 β) w w' ∧ Mem w' Zo m' β' ∧ RVs (cx w' Zo m' β') (plc 0 m0) (plv m0 β) ∧ RV (cx w' Zo m' β') r v ∧ ∀ b, liveAt m' β' b → liveAt m0 β b ∨ w.heap.size ≤ b) .ret a' w' by
      cases e <;> first | exact he.elim | exact key
    rcases q with ⟨ks, hw⟩ | ⟨hx, hm0, sz, hsz, hr, hm'⟩
    · have hrel : Rel w (liveAt m0 β) Zo (plv m0 β) ⟨[packV xs], st'.m, st'.g⟩ { tmps := #[v], defers := [] } w' := ⟨β1, M1, h1, h2, rfl, RVs.one hv, h5⟩
      obtain ⟨β2, M2, k1, k2, _, ⟨u, us', eu, k4, _⟩, k5⟩ := hw.rel hrel
      injection eu with e1 e2
      subst e1
      exact ⟨h3, _, hres, v, β2, rfl, k2, M2, k5, k4, k1⟩
    · simp only at hm0 hr hm'
      subst hm0; subst hr; subst hm'
      rw [hx] at hv
      have hv : v = .slice none 0 0 := hv
      refine ⟨h3, _, hres, v, [⟨0, 0⟩], rfl, h2, ⟨rfl, ?_, ?_, ?_, M1.zlt⟩, ?_, ?_, ?_⟩
      · intro o ob l g1 g2
        cases o with
        | zero =>
          simp at g1 g2
          subst g1; subst g2
          exact ⟨Nat.le_refl _, by decide, hsz, .inl rfl⟩
        | succ o => simp at g1
      · intro o o' ob ob' l l' b g1 g2 g3 g4 g5 g6
        cases o with
        | zero =>
          simp at g1 g3
          subst g1; subst g3
          simp [Ob.blk] at g5
        | succ o => simp at g1
      · rintro b ⟨o, ob, l, g1, g2, g3⟩
        cases o with
        | zero =>
          simp at g1 g2
          subst g1; subst g2
          simp [Ob.blk] at g3
        | succ o => simp at g1
      · rfl
      · rw [hv]
        exact ⟨Nat.le_refl _, none, rfl, fun h => by simp at h⟩
      · rintro b ⟨o, ob, l, g1, g2, g3⟩
        cases o with
        | zero =>
          simp at g1 g2
          subst g1; subst g2
          simp [Ob.blk] at g3
        | succ o => simp at g1
theorem LCon.of {f : FuncId} {fn : Func} {c : Code} {args : List V} {m0 : List Ob} {r : V} {m' : List Ob} {rs : List ResultVar} {n : Nat} (hf : P.funcs[f]? = some fn) (hb : fn.body = some c) (hcall : ∀ (args : Array Value) (w : World), (callFunc f args).run P w = .ok (.enter f args) w)
    (hr : fn.results = rs.toArray) (hn : fn.ntmps = n)
    (h : CW P c ⟨mk8 (args ++ List.replicate (n - args.length) .junk), m0, plc 0 m0⟩ (finL P rs m0 r m')) : LCon P f args m0 r m' := LCon.ofS hf hb hcall hr hn (CW.sound h)
/-- New objects alone. -/
theorem LCon.new {f : FuncId} {args : List V} {r : V} {mr : List Ob} (h : LCon P f args [] r mr) (hp : ∀ ob ∈ mr, ob.pure) : NCon P f args r mr := by
  refine ⟨h.ok, hp, ?_⟩
  intro w Zo us hz hargs
  have M0 : Mem w Zo [] [] := ⟨rfl, fun o ob l h => by simp at h, fun o o' ob ob' l l' b h => by simp at h, fun b ⟨o, ob, l, h, _⟩ => by simp at h, hz⟩
  refine (h.c w Zo [] us M0 hargs).mono ?_
  rintro e w' ⟨v, β', rfl, G, M', _, hv, hl⟩
  refine ⟨v, β', rfl, G.mono ?_, M', hv, fun b hb => (hl b hb).resolve_left ?_⟩
  · rintro b ⟨o, ob, l, h, _⟩; simp at h
  · rintro ⟨o, ob, l, h, _⟩; simp at h
/-- What is new may be frozen. -/
theorem NCon.con {f : FuncId} {args : List V} {r : V} {mr : List Ob} (h : NCon P f args r mr) (hp : Ref (fun _ => False) (convR mr r)) : Con P f args (convR mr r) := by
  refine ⟨h.ok, hp, ?_⟩
  intro w Zo us hz hargs
  refine (h.c w Zo us hz hargs).mono ?_
  rintro e w' ⟨v, β', rfl, G, M', hv, hl⟩
  have M0 : Mem w' Zo [] [] := ⟨rfl, fun o ob l h => by simp at h, fun o o' ob ob' l l' b h => by simp at h, fun b ⟨o, ob, l, h, _⟩ => by simp at h, M'.zlt⟩
  exact ⟨v, [], rfl, G, M0, convZ M' (Agree.refl _) r v hp hv, fun b ⟨o, ob, l, h, _⟩ => by simp at h⟩
end

section
variable {P : Program} {f : FuncId} {fs cs xs xs' : List V} {m : List Ob} {K KL : V → List Ob → Prop} {r : V} {mr : List Ob}
theorem clY.con (h : Con P f xs r) (hp : Refs (fun _ => False) xs) (k : K r []) : @clY P (.fn f [] []) xs m ⟨K, KL⟩ := by
  unfold clY
  rw [clX_fn, List.append_nil, List.nil_append]
  exact .inl (callVC.con h hp k)
theorem clY.conC (h : Con P f xs' r) (e : fs ++ xs ++ cs = xs') (hp : Refs (fun _ => False) xs') (k : K r []) : @clY P (.fn f fs cs) xs m ⟨K, KL⟩ := by
  subst e
  exact .inl (callVC.con h hp k)
/-- A call that only reads what the caller holds. -/
theorem clY.conF (h : Con P f xs' r) (e : convRs m (fs ++ xs ++ cs) = xs') (hp : Refs (fun _ => False) xs') (hr : Flat r) (k : K r []) : @clY P (.fn f fs cs) xs m ⟨K, KL⟩ :=
  .inl (callVC.conF h e hp hr k)
/-- A call that hands back new objects. -/
theorem clY.new (h : NCon P f xs r mr) (hp : Refs (fun _ => False) xs) (k : K (r.ren fun q => m.length + q) mr) : @clY P (.fn f [] []) xs m ⟨K, KL⟩ := by
  unfold clY
  rw [clX_fn, List.append_nil, List.nil_append]
  exact .inl (callVC.new h hp k)
theorem clY.newF (h : NCon P f xs' r mr) (e : convRs m (fs ++ xs ++ cs) = xs') (hp : Refs (fun _ => False) xs') (hr : Flat r) (hfl : ∀ ob ∈ mr, ob.flat) (k : K (r.ren fun q => m.length + q) mr) : @clY P (.fn f fs cs) xs m ⟨K, KL⟩ :=
  .inl (callVC.newF h e hp hr hfl k)
def Ob.alive : Ob → Bool
  | .dead => false
  | _ => true
/-- What a call asks that writes the objects ks; the objects fz are frozen before. -/
def LArg (ks fz : List Nat) (m : List Ob) (xs xs' : List V) (m0 : List Ob) : Prop :=
  ks.Nodup ∧ (∀ q ∈ ks, q < m.length ∧ ((frzM fz m).getD q .hole).refs (· ∈ ks) ∧ ((frzM fz m).getD q .hole).alive = true) ∧ Refs (· ∈ ks) (convs (frzM fz m) xs) ∧ rens (idx ks) (convs (frzM fz m) xs) = xs' ∧ sel ks (frzM fz m) = m0
theorem clY.live (ks fz : List Nat) {m0 m' : List Ob} (h : LCon P f xs' m0 r m') (e : LArg ks fz m (fs ++ xs ++ cs) xs' m0) (hl : ks.length ≤ m'.length)
    (k : KL (r.ren (sg ks m.length)) (bk (frzM fz m) ks (m'.map (Ob.ren (sg ks m.length))))) : @clY P (.fn f fs cs) xs m ⟨K, KL⟩ := by
  obtain ⟨h1, h2, h3, h4, h5⟩ := e
  subst h4; subst h5
  exact .inr (.inl ⟨ks, fz, r, m', h.ok, h1, fun q hq => (h2 q hq).1, fun q hq => (h2 q hq).2.1, (fun q hq (he : (frzM fz m).getD q Ob.hole = Ob.dead) => by have h6 := (h2 q hq).2.2; rw [he] at h6; cases h6), h3, hl, h.c, k⟩)
theorem clY.ov (h : ovOK P f m xs) (k : KL (.bool false) m) : @clY P (.fn f [] []) xs m ⟨K, KL⟩ := .inr (.inr ⟨rfl, rfl, h, k⟩)
end
/-! ### rules -/
section
variable {P : Program} {st : St} {Q : Exit → St → Prop}
@[congr] theorem CW_congr {c : Code} {st st' : St} {Q : Exit → St → Prop} (h : st = st') : CW P c st Q = CW P c st' Q := by rw [h]
theorem CW_skip : CW P .skip st Q = Q .normal st := nr rfl
theorem CW_ret : CW P .ret st Q = Q .ret st := nr rfl
theorem CW_exit {id : Nat} : CW P (.exit id) st Q = Q (.exit id) st := nr rfl
theorem CW_seq {x y : Code} : CW P (.seq x y) st Q = CW P x st (andThen (fun st' => CW P y st' Q) Q) := nr rfl
theorem CW_block {id : Nat} {c : Code} : CW P (.block id c) st Q = CW P c st (inBlk id Q) := nr rfl
theorem CW_cond {c : Operand} {x y : Code} : CW P (.cond c x y) st Q = (isBl (St.ev st.t c) ∧ gB (St.ev st.t c) true (CW P x st Q) (CW P y st Q)) := nr rfl
theorem CW_region {id : Nat} {ops : Array Oper} : CW P (.region id ops false) st Q = RS P (dsts ops) ops.toList st (Q .normal) := by simp [CW]
theorem CW_drawn {id : Nat} {ops : Array Oper} : CW P (.region id ops true) st Q = DR P ops st (Q .normal) := by simp [CW]
theorem CW_loop {c : Code} : CW P (.loop c) st Q = SW P (.loop c) st Q := nr rfl
@[congr] theorem andThen_congr {K : St → Prop} {e e' : Exit} {st st' : St} (h : st = st') : andThen K Q e st = andThen K Q e st' := by rw [h]
theorem andThen_n {K : St → Prop} : andThen K Q .normal st = K st := nr rfl
theorem andThen_r {K : St → Prop} : andThen K Q .ret st = Q .ret st := nr rfl
theorem andThen_e {K : St → Prop} {id : Nat} : andThen K Q (.exit id) st = Q (.exit id) st := nr rfl
@[congr] theorem inBlk_congr {id : Nat} {e : Exit} {st st' : St} (h : st = st') : inBlk id Q e st = inBlk id Q e st' := by rw [h]
theorem inBlk_n {id : Nat} : inBlk id Q .normal st = Q .normal st := nr rfl
theorem inBlk_r {id : Nat} : inBlk id Q .ret st = Q .ret st := nr rfl
theorem inBlk_e {id : Nat} : inBlk id Q (.exit id) st = Q .normal st := by simp [inBlk]
theorem inBlk_o {id id' : Nat} (h : id' ≠ id) : inBlk id Q (.exit id') st = Q (.exit id') st := by simp [inBlk, h]
theorem DR.intro {ops : Array Oper} {K : St → Prop} (h1 : P.follows .mixedOrders = true) (h2 : anyB ops (quietN ops.toList) = true) (k : RQ P (dsts ops) (quietN ops.toList) ops.toList st K) : DR P ops st K := ⟨h1, h2, k⟩
@[congr] theorem DR_congr {ops : Array Oper} {st st' : St} {K : St → Prop} (h : st = st') : DR P ops st K = DR P ops st' K := by rw [h]
theorem fin_ret {rs : List ResultVar} {r : V} : fin P rs r .ret st = resV P st rs [] (fun xs => Ref (fun _ => False) (convR st.m (packV xs)) ∧ convR st.m (packV xs) = r) := by simp [fin]
theorem resV_nil {acc : List V} {K : List V → Prop} : resV P st [] acc K = K acc := nr rfl
theorem resV_tmp {acc : List V} {t : Tmp} {rs : List ResultVar} {K : List V → Prop} : resV P st (.tmp t :: rs) acc K = resV P st rs (acc ++ [st.t.getD t .junk]) K := nr rfl
theorem resV_cell {acc : List V} {a : Tmp} {t : TypeId} {rs : List ResultVar} {K : List V → Prop} : resV P st (.cell a t :: rs) acc K = ldVC P t st.m (st.t.getD a .junk) (fun x => resV P st rs (acc ++ [x]) K) := nr rfl
end
theorem packV_one {x : V} : packV [x] = x := nr rfl
theorem packV_two {x y : V} {xs : List V} : packV (x :: y :: xs) = .tup (x :: y :: xs) := nr rfl
theorem convR_ar {m : List Ob} {q off len : Nat} : convR m (.ar q off len) = match arrAt m q with
    | some (sz, xs) => .sl sz ((xs.drop off).take len)
    | none => .ar q off len := by
  simp only [convR, conv, arrAt, List.getElem?_map]
  cases m[q]? with
  | none => rfl
  | some ob => cases ob <;> rfl
theorem convR_ptr {m : List Ob} {q off : Nat} : convR m (.ptr q off) = match boxAt m q with
    | some cs => .fptr cs off
    | none => .ptr q off := by
  simp only [convR, conv, boxAt, List.getElem?_map]
  cases m[q]? with
  | none => rfl
  | some ob => cases ob <;> rfl
section
variable {m : List Ob}
theorem convR_agg {cs : List V} : convR m (.agg cs) = .agg (convRs m cs) := nr rfl
theorem convR_tup {cs : List V} : convR m (.tup cs) = .tup (convRs m cs) := nr rfl
theorem convR_fn {f : FuncId} {fs cs : List V} : convR m (.fn f fs cs) = .fn f (convRs m fs) (convRs m cs) := nr rfl
theorem convR_int {k : IntKind} {n : Int} : convR m (.int k n) = .int k n := nr rfl
theorem convR_bool {b : Bool} : convR m (.bool b) = .bool b := nr rfl
theorem convR_str {s : ByteArray} : convR m (.str s) = .str s := nr rfl
theorem convR_nil : convR m .nil = .nil := nr rfl
theorem convR_sl {sz : Nat} {xs : List (List V)} : convR m (.sl sz xs) = .sl sz xs := nr rfl
theorem convR_fptr {cs : List V} {off : Nat} : convR m (.fptr cs off) = .fptr cs off := nr rfl
theorem convRs_nil : convRs m [] = [] := nr rfl
theorem convRs_cons {x : V} {xs : List V} : convRs m (x :: xs) = convR m x :: convRs m xs := nr rfl
end
theorem Refss_map {α : Type} {ok : Nat → Prop} {f : α → List V} {l : List α} (h : ∀ a, Refs ok (f a)) : Refss ok (l.map f) := Refss.of fun x hx => by
  obtain ⟨a, _, rfl⟩ := List.mem_map.1 hx
  exact h a
theorem renss_map {α : Type} {ρ : Nat → Nat} {f : α → List V} {l : List α} (h : ∀ a, Refs (fun _ => False) (f a)) : renss ρ (l.map f) = l.map f := renss_pure _ (Refss_map h)
end Go.Pm
