/- The abstract machine: a region whose order is drawn, with a store that some quiet operations may come behind. -/
import Derived.Test.YtkdaijcdddomjaaPm17
set_option linter.unusedVariables false
set_option linter.unusedSimpArgs false
namespace Go.Pm
open Go.RowKit
/-- What a store at place k asks: no result, no guard; the operations of fl write nothing that it looks at, and all that stands behind it waits for them. -/
def anyS (ops : Array Oper) (fl : List Nat) (k : Nat) : Bool :=
  let l := ops.toList
  let ds := l.map (·.dst)
  let as := ancs (l.map fun o => (o.after.toList.filter (Region.binds .any)).map (·.on)) []
  match ops[k]? with
  | some o => o.dst.isNone && o.guard.isNone && (fl.all fun j => match ds.getD j none with
      | none => true
      | some s => !(o.looksAt ops).contains s) && (List.range l.length).all fun i => !Nat.blt k i || fl.all fun j => (as.getD i []).contains j
  | none => false
section
variable {P : Program} {ops : Array Oper} {K : St → Prop} {w0 : World} {E Zo : Nat → Prop} {gh : List Value} {Q : Exit → Act → World → Prop}
theorem runT_other (s : Nat) : ∀ (os : List Oper) (rs : List Res) (F : List Bool) (t : List V), (∀ o ∈ os, o.dst ≠ some s) → (runT os rs F t).getD s .junk = t.getD s .junk
  | o :: os, r :: rs, l :: ls, t, h => by
    simp only [runT]
    rw [runT_other s os rs ls _ fun o ho => h o (List.mem_cons_of_mem _ ho)]
    split
    · rw [putT_getD, if_neg (fun q => h o List.mem_cons_self q.1)]
    · rfl
  | [], _, _, t, _ => by simp [runT]
  | _ :: _, [], _, t, _ => by simp [runT]
  | _ :: _, _ :: _, [], t, _ => by simp [runT]
theorem runT_val (s : Nat) : ∀ (os : List Oper) (rs : List Res) (t : List V) (j : Nat) (o : Oper), rs.length = os.length → s < t.length → os[j]? = some o → o.dst = some s → (∀ i o', os[i]? = some o' → i ≠ j → o'.dst ≠ some s) →
    (runT os rs (List.replicate os.length true) t).getD s .junk = (rs[j]?.map valOf).getD .junk
  | [], _, _, j, o, _, _, ho, _, _ => by simp at ho
  | _ :: _, [], _, _, _, hl, _, _, _, _ => by simp at hl
  | o0 :: os, r :: rs, t, 0, o, hl, ht, ho, hd, hu => by
    obtain rfl : o0 = o := by simpa using ho
    simp only [List.length_cons, List.replicate_succ, runT, if_true]
    rw [runT_other s os rs _ _ fun o' ho' => ?_]
    · rw [putT_getD, if_pos ⟨hd, ht⟩]; rfl
    · obtain ⟨i, hi⟩ := List.mem_iff_getElem?.1 ho'
      exact hu (i + 1) o' (by simpa using hi) (by omega)
  | o0 :: os, r :: rs, t, j + 1, o, hl, ht, ho, hd, hu => by
    simp only [List.length_cons, List.replicate_succ, runT, if_true, List.getElem?_cons_succ]
    exact runT_val s os rs _ j o (by simpa using hl) (by rw [putT_length]; exact ht) (by simpa using ho) hd fun i o' hi hne => hu (i + 1) o' (by simpa using hi) (by omega)
theorem runT_same : ∀ (os : List Oper) (rs rs' : List Res) (F : List Bool) (t : List V), rs.length = os.length → rs'.length = os.length → (∀ (j : Nat) (o : Oper) (s : Nat), os[j]? = some o → o.dst = some s → s < t.length → rs[j]?.map valOf = rs'[j]?.map valOf) → runT os rs F t = runT os rs' F t
  | o :: os, r :: rs, r' :: rs', l :: ls, t, h1, h2, h => by
    simp only [runT]
    have e : (if l = true then putT t o.dst (valOf r) else t) = if l = true then putT t o.dst (valOf r') else t := by
      cases l
      · rfl
      · simp only [if_true]
        cases hd : o.dst with
        | none => rfl
        | some s =>
          by_cases hs : s < t.length
          · have := h 0 o s rfl hd hs
            simp only [List.getElem?_cons_zero, Option.map_some, Option.some.injEq] at this
            rw [this]
          · simp only [putT]
            rw [List.set_eq_of_length_le (Nat.le_of_not_lt hs), List.set_eq_of_length_le (Nat.le_of_not_lt hs)]
    rw [e]
    refine runT_same os rs rs' ls _ (by simpa using h1) (by simpa using h2) fun j o' s hj hd hs => ?_
    have hl : (if l = true then putT t o.dst (valOf r') else t).length = t.length := by split <;> simp [putT_length]
    simpa using h (j + 1) o' s (by simpa using hj) hd (by omega)
  | [], rs, rs', _, t, _, _, _ => by simp [runT]
  | _ :: _, [], _, _, t, h1, _, _ => by simp at h1
  | _ :: _, _ :: _, [], _, t, _, h2, _ => by simp at h2
  | _ :: _, _ :: _, _ :: _, [], t, _, _, _ => by simp [runT]
theorem flatM_nil : ∀ (rs : List Res) (F : List Bool), F.length = rs.length → flatM rs (List.replicate rs.length true) = [] → flatM rs F = []
  | [], F, _, _ => by simp [flatM]
  | r :: rs, [], h, _ => by simp at h
  | r :: rs, l :: F, h, e => by
    simp only [List.length_cons, List.replicate_succ, flatM, if_true, List.append_eq_nil_iff] at e
    simp only [flatM]
    rw [flatM_nil rs F (by simpa using h) e.2, e.1]
    cases l <;> rfl
theorem lay0_f {n k : Nat} {F : List Bool} (hF : F.length = k) (hk : k < n) : lay0 n (F ++ [false]) = lay0 n F := by
  unfold lay0
  rw [List.length_append, hF, List.length_singleton, List.append_assoc]
  congr 2
  rw [show n - k = (n - (k + 1)) + 1 by omega, List.replicate_succ]
  rfl
theorem store_sound {k : Nat} {st : St} {rs rs1 : List Res} {fl : List Nat} {m1 : List Ob} {T : List V} {o : Oper} (A : Any ops fl k) (hk : k < ops.size) (hQ : ∀ st a w, K st → Rel w0 E Zo gh st a w → Q .normal a w)
    (ho : ops[k]? = some o) (hod : o.dst = none) (hog : o.guard = none)
    (hrun : Run P (dsts ops) (ops.toList.take k) st rs ⟨T, st.m, st.g⟩) (hrun1 : Run P (dsts ops) (ops.toList.take k) ⟨st.t, m1, st.g⟩ rs1 ⟨T, m1, st.g⟩)
    (hfl : ∀ j ∈ fl, ∀ (oj : Oper) (s : Tmp), ops[j]? = some oj → oj.dst = some s → s ∉ o.looksAt ops)
    (hall : ∀ i, k < i → i < ops.size → ∀ j ∈ fl, Anc ops i j)
    (hst : ∀ t : List V, (∀ s ∈ o.looksAt ops, t.getD s .junk = T.getD s .junk) → S1 P o ⟨t, st.m, st.g⟩ fun st' => st' = ⟨t, m1, st.g⟩)
    (htail : RS P (dsts ops) (ops.toList.drop (k + 1)) ⟨T, m1, st.g⟩ K) :
    ∀ (fuel : Nat) (b : Bool) (F : List Bool) (a : Act) (w : World), F.length = k → left F + (if b then 0 else 1) + (ops.size - (k + 1)) ≤ fuel → (∀ i, F[i]? = some true → ∀ j ∈ waits ops i, F[j]? = some true) → (b = true → ∀ j ∈ waits ops k, F[j]? = some true) →
      Part ops k (if b then ⟨st.t, m1, st.g⟩ else st) (if b then rs1 else rs) w0 E Zo gh F a w → wpAny P .any ops Q fuel (lay0 ops.size (F ++ [b])) a w := by
  have hlenk : (ops.toList.take k).length = k := by simp [A.le]
  have hrl : rs.length = k := by rw [hrun.len, hlenk]
  have hrl1 : rs1.length = k := by rw [hrun1.len, hlenk]
  have hoT : ∀ (j : Nat) (o : Oper), (ops.toList.take k)[j]? = some o → j < k ∧ ops[j]? = some o := by
    intro j o hj
    have hjk : j < k := by have := (List.getElem?_eq_some_iff.1 hj).1; omega
    rw [List.getElem?_take_of_lt hjk, Array.getElem?_toList] at hj
    exact ⟨hjk, hj⟩
  have e0 := hrun.fin
  have e1 := hrun1.fin
  rw [hlenk] at e0 e1
  simp only [St.mk.injEq] at e0 e1
  have hn0 : flatM rs (List.replicate rs.length true) = [] := by rw [hrl]; simpa using e0.2.1
  have hn1 : flatM rs1 (List.replicate rs1.length true) = [] := by rw [hrl1]; simpa using e1.2.1
  have hsame : ∀ F, runT (ops.toList.take k) rs F st.t = runT (ops.toList.take k) rs1 F st.t := fun F => by
    refine runT_same _ _ _ _ _ (by omega) (by omega) fun j o s hj hd hs => ?_
    have hu : ∀ i o', (ops.toList.take k)[i]? = some o' → i ≠ j → o'.dst ≠ some s := fun i o' hi hne => by
      obtain ⟨a1, a2⟩ := hoT i o' hi
      obtain ⟨b1, b2⟩ := hoT j o hj
      exact A.once j i o o' s b1 a1 (fun q => hne q.symm) b2 a2 hd
    have v0 := runT_val s _ rs st.t j o (by omega) hs hj hd hu
    have v1 := runT_val s _ rs1 st.t j o (by omega) hs hj hd hu
    rw [hlenk, ← e0.1] at v0
    rw [hlenk, ← e1.1] at v1
    have hjk := (hoT j o hj).1
    rw [List.getElem?_eq_getElem (by omega)] at v0 v1 ⊢
    rw [List.getElem?_eq_getElem (by omega)]
    simp only [Option.map_some, Option.getD_some] at v0 v1 ⊢
    rw [← v0, ← v1]
  have hanc0 : ∀ {F : List Bool} {a b : Nat}, (∀ i, F[i]? = some true → ∀ j ∈ waits ops i, F[j]? = some true) → Anc ops a b → (∀ l ∈ waits ops a, F[l]? = some true) → F[b]? = some true := by
    intro F a b hc h
    induction h with
    | one h => exact fun hw => hw _ h
    | more h _ ih => exact fun hw => ih (hc _ (hw _ h))
  intro fuel
  induction fuel with
  | zero =>
    intro b F a w hF hl hc hb r
    have h0 : left F = 0 := by omega
    have hbt : b = true := by cases b <;> simp at hl ⊢
    subst hbt
    have hF' := left_zero h0
    rw [hF] at hF'
    subst hF'
    have e : lay0 ops.size (List.replicate k true ++ [true]) = flags ops.size (k + 1) := by
      rw [← lay0_all (by omega), List.replicate_succ']
    rw [e]
    refine tail_sound A hQ 0 (k + 1) ⟨T, m1, st.g⟩ a w (by omega) (by omega) (by omega) htail ?_
    unfold Part at r
    simp only [if_true] at r
    rw [← e1.1] at r
    have := hn1
    rw [hrl1] at this
    rw [this, List.append_nil] at r
    exact r
  | succ fuel ih =>
    intro b F a w hF hl hc hb r
    by_cases hdone : left F = 0 ∧ b = true
    · obtain ⟨h0, hbt⟩ := hdone
      subst hbt
      have hF' := left_zero h0
      rw [hF] at hF'
      subst hF'
      have e : lay0 ops.size (List.replicate k true ++ [true]) = flags ops.size (k + 1) := by
        rw [← lay0_all (by omega), List.replicate_succ']
      rw [e]
      refine tail_sound A hQ (fuel + 1) (k + 1) ⟨T, m1, st.g⟩ a w (by omega) (by omega) (by simp only [if_true] at hl; omega) htail ?_
      unfold Part at r
      simp only [if_true] at r
      rw [← e1.1] at r
      have := hn1
      rw [hrl1] at this
      rw [this, List.append_nil] at r
      exact r
    · have hlG : (F ++ [b]).length = k + 1 := by simp [hF]
      have hGF : ∀ j, j < k → (F ++ [b])[j]? = F[j]? := fun j hj => List.getElem?_append_left (by omega)
      have hGk : (F ++ [b])[k]? = some b := by rw [List.getElem?_append_right (by omega), hF]; simp
      have hfull : ((∀ j, j < k → F[j]? = some true) ∧ b = true) → False := fun h => hdone ⟨by
        have hF' : F = List.replicate F.length true := all_true fun j hj => h.1 j (by omega)
        rw [hF']; exact left_rep _, h.2⟩
      refine ⟨fun hr => ?_, fun i hi => ?_⟩
      · exfalso
        have hsz : (lay0 ops.size (F ++ [b])).size = ops.size := by simp [lay0]; omega
        have := ready_some hsz A.early hr
        refine hfull ⟨fun j hj => ?_, ?_⟩
        · have := this j (by omega)
          rw [lay0_get (by omega), hGF j hj] at this
          exact this
        · have := this k hk
          rw [lay0_get (by omega), hGk] at this
          simpa using this
      · obtain ⟨h1, h2, h3⟩ := ready_waits hi
        have hwF : ∀ l, l < k → (lay0 ops.size (F ++ [b])).getD l false = true → F[l]? = some true := by
          intro l hlk h
          rw [Array.getD_eq_getD_getElem?, lay0_get (by omega), hGF l hlk] at h
          cases hb' : F[l]? with
          | none => rw [hb'] at h; cases h
          | some x => rw [hb'] at h; simpa using h
        rcases Nat.lt_trichotomy i k with hik | hik | hik
        · have hiF : F[i]? = some false := by
            rw [Array.getD_eq_getD_getElem?, lay0_get (by omega), hGF i hik] at h1
            have hlt : i < F.length := by omega
            rw [List.getElem?_eq_getElem hlt] at h1 ⊢
            simpa using h1
          have h3' : ∀ j ∈ waits ops i, F[j]? = some true := by
            intro j hj
            have hj2 := A.early i h2 j hj
            exact hwF j (by omega) (h3 j hj)
          rw [lay0_set (by omega), List.set_append_left _ _ (by omega)]
          have hnext : ∀ (a' : Act) (w' : World), Part ops k (if b then ⟨st.t, m1, st.g⟩ else st) (if b then rs1 else rs) w0 E Zo gh (F.set i true) a' w' → wpAny P .any ops Q fuel (lay0 ops.size (F.set i true ++ [b])) a' w' := by
            intro a' w' hp
            refine ih b (F.set i true) a' w' (by simpa using hF) (by have := left_set hiF; omega) ?_ (fun hbt l hl => ?_) hp
            · intro j hj l hl
              by_cases e : j = i
              · subst e
                have hlj := A.early j h2 l hl
                rw [List.getElem?_set_ne (by omega)]
                exact h3' l hl
              · rw [List.getElem?_set_ne (fun q => e q.symm)] at hj
                have := hc j hj l hl
                by_cases e2 : l = i
                · subst e2
                  rw [List.getElem?_set_self (by omega)]
                · rw [List.getElem?_set_ne (fun q => e2 q.symm)]
                  exact this
            · have := hb hbt l hl
              by_cases e2 : l = i
              · subst e2
                rw [List.getElem?_set_self (by omega)]
              · rw [List.getElem?_set_ne (fun q => e2 q.symm)]
                exact this
          have hrunb : ∃ st', Run P (dsts ops) (ops.toList.take k) (if b then ⟨st.t, m1, st.g⟩ else st) (if b then rs1 else rs) st' := by
            cases b
            · exact ⟨_, hrun⟩
            · exact ⟨_, hrun1⟩
          obtain ⟨st', hrunb⟩ := hrunb
          rcases head_step (Q := Q) A hrunb hF hc r hik h2 hiF h3' hnext with ⟨hw, h⟩ | ⟨hw, h⟩
          · unfold wpOp
            rw [Array.getElem?_eq_getElem h2]
            simp only
            rw [if_pos hw]
            exact .inl h
          · unfold wpOp
            rw [Array.getElem?_eq_getElem h2]
            simp only
            rw [if_neg (by rw [hw]; decide)]
            exact h
        · subst hik
          have hbf : b = false := by
            rw [Array.getD_eq_getD_getElem?, lay0_get (by omega), hGk] at h1
            simpa using h1
          subst hbf
          have h3' : ∀ j ∈ waits ops i, F[j]? = some true := fun j hj => hwF j (A.early i h2 j hj) (h3 j hj)
          rw [lay0_set (by omega), List.set_append_right _ _ (by omega), hF, Nat.sub_self]
          simp only [Bool.false_eq_true, if_false] at r
          have ho' : ops[i] = o := by rw [Array.getElem?_eq_getElem h2] at ho; simpa using ho
          have hslot : ∀ s ∈ o.looksAt ops, (runT (ops.toList.take i) rs F st.t).getD s .junk = T.getD s .junk := by
            intro s hs
            rw [e0.1]
            refine runT_agree s _ _ _ _ _ _ (by simp [hF]) rfl (fun j o' hj hd => ?_) rfl
            obtain ⟨hjk, hoj⟩ := hoT j o' hj
            rw [List.getElem?_replicate, if_pos hjk]
            by_cases hjf : j ∈ fl
            · exact absurd hs (hfl j hjf o' s hoj hd)
            · exact hanc0 hc (A.tail i (Nat.le_refl _) h2 j hjk hjf) h3'
          have hS := hst _ hslot
          have hnil := flatM_nil rs F (by omega) hn0
          unfold Part at r
          rw [hnil, List.append_nil] at r
          unfold wpOp
          rw [ho]
          simp only
          have hwant : Region.wanted o (yielded ops a.tmps) = true := by unfold Region.wanted; rw [hog]
          rw [if_pos hwant]
          refine .inl (Oper.wp_mono ?_ (S1_sound hS w0 E Zo gh a w Q r))
          rintro a' w' ⟨st', rfl, hr'⟩
          refine ih true F a' w' hF (by simp only [Bool.false_eq_true, if_false] at hl; simp only [if_true]; omega) hc (fun _ => h3') ?_
          unfold Part
          simp only [if_true]
          rw [flatM_nil rs1 F (by omega) hn1, List.append_nil, ← hsame F]
          exact hr'
        · exfalso
          have hwk : ∀ l ∈ waits ops i, l < k ∧ F[l]? = some true ∨ l = k ∧ b = true := by
            intro l hl2
            have := h3 l hl2
            have hli := A.early i h2 l hl2
            rcases Nat.lt_trichotomy l k with hlk | hlk | hlk
            · exact .inl ⟨hlk, hwF l hlk this⟩
            · subst hlk
              rw [Array.getD_eq_getD_getElem?, lay0_get (by omega), hGk] at this
              exact .inr ⟨rfl, by simpa using this⟩
            · rw [Array.getD_eq_getD_getElem?, lay0_get' (by omega) (by omega)] at this
              simp at this
          have hanc : ∀ {x y : Nat}, Anc ops x y → (∀ l ∈ waits ops x, l < k ∧ F[l]? = some true ∨ l = k ∧ b = true) → (y < k ∧ F[y]? = some true ∨ y = k ∧ b = true) := by
            intro x y h
            induction h with
            | one h => exact fun hw => hw _ h
            | more h _ ih2 =>
              intro hw
              refine ih2 fun l hl3 => ?_
              rcases hw _ h with ⟨q1, q2⟩ | ⟨q1, q2⟩
              · have := A.early _ (by omega) l hl3
                exact .inl ⟨by omega, hc _ q2 l hl3⟩
              · subst q1
                have := A.early _ hk l hl3
                exact .inl ⟨this, hb q2 l hl3⟩
          refine hfull ⟨fun j hj => ?_, ?_⟩
          · have hA : Anc ops i j := by
              by_cases hjf : j ∈ fl
              · exact hall i hik h2 j hjf
              · exact A.tail i (by omega) h2 j (by omega) hjf
            rcases hanc hA hwk with ⟨_, h⟩ | ⟨h, _⟩
            · exact h
            · omega
          · have hA : Anc ops i k := A.tail i (by omega) h2 k hik (fun hf => by have := A.flt k hf; omega)
            rcases hanc hA hwk with ⟨h, _⟩ | ⟨_, h⟩
            · omega
            · exact h
/-- A region whose order is drawn, with a store at place k that the quiet operations of fl may come behind. -/
theorem SW.drawnS {st : St} {Q : Exit → St → Prop} {id : Nat} {e : TypeId} {x y : Operand} (fl : List Nat) (k : Nat) (m1 : List Ob) (T : List V) (hm : P.follows .mixedOrders = true) (hk : anyF ops fl k = true) (hs : anyS ops fl k = true)
    (ho : (ops[k]?).map (·.op) = some (.store e x y))
    (h0 : RQ P (dsts ops) k (ops.toList.take k) st fun st' => st' = ⟨T, st.m, st.g⟩)
    (hst : storeVC P e st.m (St.ev T x) (St.ev T y) fun m' => m' = m1)
    (h1 : RQ P (dsts ops) k (ops.toList.take k) ⟨st.t, m1, st.g⟩ fun st' => st' = ⟨T, m1, st.g⟩)
    (h2 : RS P (dsts ops) (ops.toList.drop (k + 1)) ⟨T, m1, st.g⟩ (Q .normal)) : SW P (.region id ops true) st Q := by
  intro w0 E Zo gh a w r
  have A := Any.of hk
  obtain ⟨rs, st', hrun, ht⟩ := RQ_run h0
  obtain ⟨rs1, st1', hrun1, ht1⟩ := RQ_run h1
  have hd : List.drop k (List.take k ops.toList) = [] := by simp
  have htt : List.take k (List.take k ops.toList) = List.take k ops.toList := by rw [List.take_take, Nat.min_self]
  rw [hd] at ht ht1
  rw [htt] at hrun hrun1
  obtain rfl : st' = ⟨T, st.m, st.g⟩ := ht
  obtain rfl : st1' = ⟨T, m1, st.g⟩ := ht1
  unfold anyS at hs
  cases ho' : ops[k]? with
  | none => rw [ho'] at ho; cases ho
  | some o =>
    rw [ho'] at hs ho
    have hop : o.op = .store e x y := by simpa using ho
    have hksz : k < ops.size := (Array.getElem?_eq_some_iff.1 ho').1
    simp only [Bool.and_eq_true, List.all_eq_true, List.mem_range, Array.length_toList, Option.isNone_iff_eq_none] at hs
    obtain ⟨⟨⟨hod, hog⟩, hs1⟩, hs2⟩ := hs
    have hws : ∀ i, (ops.toList.map fun o => (o.after.toList.filter (Region.binds .any)).map (·.on)).getD i [] = waits ops i := by
      intro i
      unfold waits
      rw [List.getD_eq_getElem?_getD, List.getElem?_map, Array.getElem?_toList]
      cases ops[i]? <;> rfl
    refine wp_region_any hm ?_
    have hlenk : (ops.toList.take k).length = k := by simp [A.le]
    have hrl : rs.length = k := by rw [hrun.len, hlenk]
    have hr0 : Array.replicate ops.size false = lay0 ops.size (List.replicate k false ++ [false]) := by
      rw [lay0_f (by simp) hksz]
      have := A.le
      unfold lay0
      rw [List.length_replicate, List.replicate_append_replicate, show k + (ops.size - k) = ops.size by omega]
      simp
    rw [hr0]
    refine store_sound (K := Q .normal) (w0 := w0) (E := E) (Zo := Zo) (gh := gh) A hksz (fun st a w hq hr => ⟨st, hq, hr⟩) ho' hod hog hrun hrun1 (fun j hj oj s hoj hdj hsl => ?_) (fun i hki hi j hj => ?_) (fun t ht => ?_) h2 ops.size false _ a _ (by simp) ?_ (fun i hi => ?_) (fun h => by cases h) ?_
    · have := hs1 j hj
      rw [List.getD_eq_getElem?_getD, List.getElem?_map, Array.getElem?_toList, hoj] at this
      simp only [Option.map_some, Option.getD_some, hdj, Bool.not_eq_true'] at this
      have hc := List.contains_iff_mem.2 hsl
      rw [this] at hc
      cases hc
    · have := hs2 i hi
      simp only [Bool.or_eq_true, Bool.not_eq_true', List.all_eq_true, List.contains_iff_mem] at this
      rcases this with h | h
      · rw [blt_iff.2 hki] at h; cases h
      · refine ancs_sound (ops := ops) _ [] (fun i => .inl ?_) (fun i j hj => by simp at hj) i j (h j hj)
        rw [hws]; simp
    · have hx : ∀ z : Operand, (∀ s, z = .tmp s → s ∈ o.looksAt ops) → St.ev t z = St.ev T z := by
        intro z hz
        cases z with
        | tmp s => exact ht s (hz s rfl)
        | const c => rfl
        | global g => rfl
        | func f => rfl
      have hl : ∀ s : Tmp, (x = .tmp s ∨ y = .tmp s) → s ∈ o.looksAt ops := by
        intro s h
        unfold Oper.looksAt
        refine List.mem_append_left _ (List.mem_filterMap.2 ⟨.tmp s, ?_, rfl⟩)
        rw [hop]
        rcases h with rfl | rfl <;> simp [Op.operands]
      unfold S1
      rw [hop]
      simp only
      rw [hx x (fun s h => hl s (.inl h)), hx y (fun s h => hl s (.inr h)), hod]
      have : (fun m' => (⟨putT t none .junk, m', st.g⟩ : St) = ⟨t, m1, st.g⟩) = fun m' => m' = m1 := by
        funext m'
        simp [putT]
      rw [this]
      exact hst
    · have h1 : ∀ n, left (List.replicate n false) = n := by
        intro n
        induction n with
        | zero => rfl
        | succ n ih => simp [List.replicate_succ, left, ih]; omega
      rw [h1]
      simp only [Bool.false_eq_true, if_false]
      omega
    · rw [List.getElem?_replicate] at hi
      split at hi <;> cases hi
    · unfold Part
      simp only [Bool.false_eq_true, if_false]
      rw [runT_none]
      have hfin := hrun.fin
      rw [hlenk] at hfin
      simp only [St.mk.injEq] at hfin
      have hn0 : flatM rs (List.replicate rs.length true) = [] := by rw [hrl]; simpa using hfin.2.1
      rw [flatM_nil rs _ (by simp [hrl]) hn0, List.append_nil]
      obtain ⟨β, M, g1, g2, g3, g4, g5⟩ := r
      have hG : Grow w { w with drawn := w.drawn + 1 } := Grow.drew w
      exact ⟨β, M.grow hG, g1, g2.trans (hG.mono (fun _ q => q.elim)), g3, g4.mono (cx_le_grow hG), g5.mono (cx_le_grow hG)⟩
end
end Go.Pm
