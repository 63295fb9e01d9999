/- Live events: made, marked, held against marks. No conditions but lengths and bounds of numbers. -/
import Derived.Test.YtkcllejnmpnjfaaG7
import Derived.Test.YtkcllejnmpnjfaaI6
import Derived.Test.YtkcllejnmpnjfaaH1
namespace Go.Proofs.Ytkcllejnmpnjfaa
open Go.Pm
open Go.Gm (Ev Gr)
set_option maxRecDepth 10000
set_option linter.unusedSimpArgs false
set_option linter.unusedVariables false
set_option maxHeartbeats 4000000
@[mvcgen_simp] theorem jk_refl : ∀ xs : List V, jk xs xs = True
  | [] => jk_nil
  | x :: xs => by rw [jk_cons, jk_refl xs]; simp
/-- A call that writes one of the caller's arrays, wherever it lies. -/
theorem clY.at1 {P : Program} {f : FuncId} {q n sz sz' : Nat} {rest : List V} {m : List Ob} {zs zs' : List (List V)} {r : V} {K KL : V → List Ob → Prop} (h : LCon P f (.ar 0 0 n :: rest) [.arr true sz zs] r [.arr true sz' zs'])
    (hq : m[q]? = some (.arr true sz zs)) (hp : (Ob.arr true sz zs).pure) (hp' : (Ob.arr true sz' zs').pure) (hr : Ref (fun _ => False) r) (hrest : Refs (fun _ => False) rest) (hcv : convs m rest = rest)
    (k : KL r (m.set q (.arr true sz' zs'))) : @clY P (.fn f [] []) (.ar q 0 n :: rest) m ⟨K, KL⟩ := by
  have hlt := (List.getElem?_eq_some_iff.1 hq).1
  have hl : (m.take q).length = q := by rw [List.length_take]; omega
  have hx : (m.drop q) = .arr true sz zs :: m.drop (q + 1) := by rw [List.drop_eq_getElem_cons hlt, (List.getElem?_eq_some_iff.1 hq).2]
  have pr : ∀ {s : Nat} {z : List (List V)} {ok : Nat → Prop}, (Ob.arr true s z).pure → (Ob.arr true s z).refs ok := fun hz => Refss.mono (fun _ h => h.elim) _ hz
  refine clY.seg (A := m.take q) (B := [.arr true sz zs]) (B' := [.arr true sz' zs']) (C := m.drop (q + 1)) h rfl (fun ob ho => ?_) (fun ob ho => ?_) ⟨Nat.zero_lt_one, Refs.mono (fun _ h => h.elim) _ hrest⟩ (Ref.mono (fun _ h => h.elim) _ hr) ?_ ?_ ?_ ?_
  · rw [List.mem_singleton] at ho; subst ho; exact ⟨pr hp, rfl⟩
  · rw [List.mem_singleton] at ho; subst ho; exact pr hp'
  · rw [List.map_singleton, Ob.ren_pure _ hp, List.append_assoc, List.singleton_append, ← hx, List.take_append_drop]
  · simp only [rens, V.ren, hl, Nat.add_zero, rens_pure _ hrest, List.nil_append, List.append_nil]
  · simp only [List.nil_append, List.append_nil, convs, hcv]
    simp only [conv, hq]
  · rw [V.ren_pure _ hr, List.map_singleton, Ob.ren_pure _ hp', List.append_assoc, List.singleton_append]
    have : m.take q ++ .arr true sz' zs' :: m.drop (q + 1) = m.set q (.arr true sz' zs') := by
      apply List.ext_getElem?
      intro j
      rw [List.getElem?_append, List.getElem?_set, hl, List.getElem?_take]
      by_cases h1 : j < q
      · rw [if_pos h1, if_pos h1, if_neg (by omega)]
      · rw [if_neg h1]
        by_cases h2 : q = j
        · subst h2
          rw [if_pos rfl, if_pos hlt, Nat.sub_self]; rfl
        · rw [if_neg h2, show j - q = (j - q - 1) + 1 by omega, List.getElem?_cons_succ, List.getElem?_drop]
          congr 1; omega
    rw [this]; exact k
/-- What is new lies behind what is let go. -/
theorem LResY.tail {m A L : List Ob} {x r : V} (em : m = A ++ L.map (Ob.ren (A.length + ·))) (ex : x = r.ren (A.length + ·)) (hL : ∀ ob ∈ L, ob.refs (· < L.length)) (hr : Ref (· < L.length) r) : @LResY m [] x ⟨[], r, L⟩ := by
  subst em; subst ex
  have hin : ∀ q, q ∈ segK A.length L.length → ∃ (h : q - A.length < L.length), (A ++ L.map (Ob.ren (A.length + ·))).getD q .hole = (L[q - A.length]).ren (A.length + ·) := fun q hq => by
    obtain ⟨h1, h2⟩ := segK_mem.1 hq
    have h3 : q - A.length < L.length := by omega
    refine ⟨h3, ?_⟩
    rw [List.getD_eq_getElem?_getD, List.getElem?_append_right h1, List.getElem?_map, List.getElem?_eq_getElem h3]; rfl
  have hidx : ∀ o, o < L.length → idx (segK A.length L.length) (A.length + o) = o := fun o ho => by rw [segK_idx (by omega)]; omega
  refine LResY.mk (segK A.length L.length) ⟨segK_nodup _ _, fun q hq => ?_, fun q hq => ?_, ?_, ⟨.inr ⟨?_, ?_⟩, rfl⟩, rfl⟩
  · have := segK_mem.1 hq
    simp only [List.length_append, List.length_map]; omega
  · obtain ⟨h3, e⟩ := hin q hq
    simp only
    rw [e]
    refine Ob.refs_ren ?_
    have h2 := hL _ (List.getElem_mem h3)
    revert h2
    generalize L[q - A.length] = ob
    cases ob with
    | hole => exact fun _ => trivial
    | dead => exact fun _ => trivial
    | box lv cs => exact fun h2 => Refs.mono (fun o ho => segK_mem.2 (by omega)) _ h2
    | arr lv sz xs => exact fun h2 => Refss.mono (fun o ho => segK_mem.2 (by omega)) _ h2
    | mp lv ks vs => exact fun h2 => ⟨Refs.mono (fun o ho => segK_mem.2 (by omega)) _ h2.1, Refs.mono (fun o ho => segK_mem.2 (by omega)) _ h2.2⟩
  · simp only
    apply List.ext_getElem?
    intro i
    rw [List.getElem?_map, segK_get]
    by_cases hi : i < L.length
    · rw [if_pos hi, List.getElem?_eq_getElem hi, Option.map_some]
      obtain ⟨h3, e⟩ := hin (A.length + i) (segK_mem.2 (by omega))
      rw [e, Ob.ren_twice]
      simp only [Nat.add_sub_cancel_left]
      rw [Ob.ren_self hidx (hL _ (List.getElem_mem hi))]
    · rw [if_neg hi, List.getElem?_eq_none (by omega)]; rfl
  · exact Ref.ren _ (Ref.mono (fun o ho => segK_mem.2 (by omega)) _ hr)
  · rw [V.twice]
    have := V.congr (ρ := fun o => idx (segK A.length L.length) (A.length + o)) (σ := fun o => o) hidx r hr
    rw [this, V.ren_id]
theorem plc_refs {ok : Nat → Prop} : ∀ (m : List Ob) (o : Nat), (∀ i, o ≤ i → i < o + m.length → ok i) → ∀ x ∈ plc o m, Ref ok x
  | [], o, h, x, hx => by simp [plc] at hx
  | ob :: m, o, h, x, hx => by
    rw [plc] at hx
    rcases List.mem_append.1 hx with hx | hx
    · have := h o (Nat.le_refl _) (by simp only [List.length_cons]; omega)
      cases ob <;> simp only [plc1, List.mem_cons, List.not_mem_nil, or_false] at hx
      · subst hx; exact this
      · rcases hx with rfl | rfl <;> exact this
      · subst hx; exact this
    · exact plc_refs m (o + 1) (fun i h1 h2 => h i (by omega) (by simp only [List.length_cons]; omega)) x hx
theorem wkT_id {ks : List Nat} (hk : ∀ q ∈ ks, idx ks q = q) : ∀ {xs : List V}, (∀ x ∈ xs, Ref (· ∈ ks) x) → wkT ks xs xs
  | [], _ => rfl
  | x :: xs, h => ⟨.inr ⟨h x List.mem_cons_self, by rw [V.congr (σ := fun o => o) hk x (h x List.mem_cons_self), V.ren_id]⟩, wkT_id hk fun y hy => h y (List.mem_cons_of_mem _ hy)⟩
/-- What lies ahead stays, what lies behind is let go. -/
theorem LResY.head {m L D m0 : List Ob} {r : V} (em : m = L ++ D) (hl : L.length = m0.length) (hL : ∀ ob ∈ L, ob.refs (· < L.length)) (hr : Ref (· < L.length) r) : @LResY m (plc 0 m0) r ⟨m0, r, L⟩ := by
  subst em
  have hidx : ∀ o, o < L.length → idx (segK 0 L.length) o = o := fun o ho => by rw [segK_idx (by omega)]; omega
  have hidx2 : ∀ q ∈ segK 0 L.length, idx (segK 0 L.length) q = q := fun q hq => hidx q (by have := segK_mem.1 hq; omega)
  have hin : ∀ q, q ∈ segK 0 L.length → ∃ (h : q < L.length), (L ++ D).getD q .hole = L[q] := fun q hq => by
    have h3 : q < L.length := by have := segK_mem.1 hq; omega
    refine ⟨h3, ?_⟩
    rw [List.getD_eq_getElem?_getD, List.getElem?_append_left h3, List.getElem?_eq_getElem h3]; rfl
  refine LResY.mk (segK 0 L.length) ⟨segK_nodup _ _, fun q hq => ?_, fun q hq => ?_, ?_, ⟨.inr ⟨?_, ?_⟩, rfl⟩, ?_⟩
  · obtain ⟨h3, _⟩ := hin q hq
    simp only [List.length_append]; omega
  · obtain ⟨h3, e⟩ := hin q hq
    simp only
    rw [e]
    have h2 := hL _ (List.getElem_mem h3)
    revert h2
    generalize L[q] = ob
    cases ob with
    | hole => exact fun _ => trivial
    | dead => exact fun _ => trivial
    | box lv cs => exact fun h2 => Refs.mono (fun o ho => segK_mem.2 (by omega)) _ h2
    | arr lv sz xs => exact fun h2 => Refss.mono (fun o ho => segK_mem.2 (by omega)) _ h2
    | mp lv ks vs => exact fun h2 => ⟨Refs.mono (fun o ho => segK_mem.2 (by omega)) _ h2.1, Refs.mono (fun o ho => segK_mem.2 (by omega)) _ h2.2⟩
  · simp only
    apply List.ext_getElem?
    intro i
    rw [List.getElem?_map, segK_get]
    by_cases hi : i < L.length
    · rw [if_pos hi, List.getElem?_eq_getElem hi, Option.map_some]
      obtain ⟨h3, e⟩ := hin (0 + i) (segK_mem.2 (by omega))
      rw [e]
      simp only [Nat.zero_add]
      rw [Ob.ren_self hidx (hL _ (List.getElem_mem hi))]
    · rw [if_neg hi, List.getElem?_eq_none (by omega)]; rfl
  · exact Ref.mono (fun o ho => segK_mem.2 (by omega)) _ hr
  · rw [V.congr (σ := fun o => o) hidx r hr, V.ren_id]
  · exact wkT_id hidx2 (plc_refs m0 0 fun i h1 h2 => segK_mem.2 (by omega))
theorem LResY.tail3 {a b c : Ob} {m L : List Ob} {x r : V} (em : m = L.map (Ob.ren (3 + ·))) (ex : x = r.ren (3 + ·)) (hL : ∀ ob ∈ L, ob.refs (· < L.length)) (hr : Ref (· < L.length) r) : @LResY (a :: b :: c :: m) [] x ⟨[], r, L⟩ :=
  LResY.tail (A := [a, b, c]) (by subst em; rfl) ex hL hr
/-- An event whose Prev lies in object q. -/
def rowEv (q : Nat) (e : Ev) : List V := [.int .i64 e.id, .int .i64 e.room, .int .i64 e.author, .int .i64 e.kind, .int .i64 e.key, .int .i64 e.n, .str e.text, .ar q 0 e.prev.length, .int .i64 e.time]
def rowsEv : Nat → List Ev → List (List V)
  | _, [] => []
  | q, e :: l => rowEv q e :: rowsEv (q + 1) l
def obI (e : Ev) : Ob := .arr true 1 (e.prev.map encI)
/-- The objects of a list of events. -/
def obE (l : List Ev) : List Ob := .arr true 9 (rowsEv 1 l) :: l.map obI
theorem rowsEv_len : ∀ (q : Nat) (l : List Ev), (rowsEv q l).length = l.length
  | _, [] => rfl
  | q, e :: l => by simp [rowsEv, rowsEv_len (q + 1) l]
theorem rowsEv_app : ∀ (q : Nat) (l l' : List Ev), rowsEv q (l ++ l') = rowsEv q l ++ rowsEv (q + l.length) l'
  | _, [], l' => rfl
  | q, e :: l, l' => by
    simp only [List.cons_append, rowsEv, rowsEv_app (q + 1) l l', List.length_cons]
    rw [show q + 1 + l.length = q + (l.length + 1) by omega]
theorem rowsEv_get : ∀ (q : Nat) (l : List Ev) (i : Nat), (rowsEv q l)[i]? = (l[i]?).map (rowEv (q + i))
  | _, [], i => by simp [rowsEv]
  | q, e :: l, 0 => by simp [rowsEv]
  | q, e :: l, i + 1 => by
    simp only [rowsEv, List.getElem?_cons_succ, rowsEv_get (q + 1) l i]
    rw [show q + 1 + i = q + (i + 1) by omega]
theorem rowsEv_set : ∀ (q : Nat) (l : List Ev) (i : Nat) (e : Ev), (rowsEv q l).set i (rowEv (q + i) e) = rowsEv q (l.set i e)
  | _, [], i, e => by simp [rowsEv]
  | q, x :: l, 0, e => by simp [rowsEv]
  | q, x :: l, i + 1, e => by
    simp only [rowsEv, List.set_cons_succ]
    rw [← rowsEv_set (q + 1) l i e, show q + 1 + i = q + (i + 1) by omega]
theorem rowsEv_ren (b : Nat) : ∀ (q : Nat) (l : List Ev), renss (b + ·) (rowsEv q l) = rowsEv (b + q) l
  | _, [] => rfl
  | q, e :: l => by
    simp only [rowsEv, renss, rowsEv_ren b (q + 1) l]
    rfl
theorem rowEv_ren (b q : Nat) (e : Ev) : rens (b + ·) (rowEv q e) = rowEv (b + q) e := rfl
theorem obI_ren (ρ : Nat → Nat) (e : Ev) : (obI e).ren ρ = obI e := by
  unfold obI
  simp only [Ob.ren, encI_rens]
/-- The same objects, further behind. -/
def obEb (b : Nat) (l : List Ev) : List Ob := .arr true 9 (rowsEv (b + 1) l) :: l.map obI
theorem obE_ren (b : Nat) (l : List Ev) : (obE l).map (Ob.ren (b + ·)) = obEb b l := by
  unfold obE obEb
  simp only [List.map_cons, Ob.ren, rowsEv_ren, List.map_map]
  congr 1
  exact List.map_congr_left fun e _ => obI_ren _ e
theorem obE_b (l : List Ev) : obE l = obEb 0 l := by unfold obE obEb; rw [Nat.zero_add]
theorem obE_len (l : List Ev) : (obE l).length = l.length + 1 := by simp [obE]
theorem obEb_len (b : Nat) (l : List Ev) : (obEb b l).length = l.length + 1 := by simp [obEb]
theorem obI_refs (ok : Nat → Prop) (e : Ev) : (obI e).refs ok := of_eq_true (encI_refs ok e.prev)
theorem rowsEv_refs {ok : Nat → Prop} : ∀ (q : Nat) (l : List Ev), (∀ i, q ≤ i → i < q + l.length → ok i) → Refss ok (rowsEv q l)
  | _, [], _ => trivial
  | q, e :: l, h => ⟨⟨trivial, trivial, trivial, trivial, trivial, trivial, trivial, h q (Nat.le_refl _) (by simp), trivial, trivial⟩, rowsEv_refs (q + 1) l fun i h1 h2 => h i (by omega) (by simp only [List.length_cons]; omega)⟩
theorem obE_refs {n : Nat} (l : List Ev) (h : l.length < n) : ∀ ob ∈ obE l, ob.refs (· < n) := fun ob ho => by
  rcases List.mem_cons.1 ho with rfl | ho
  · exact rowsEv_refs 1 l fun i h1 h2 => by omega
  · obtain ⟨e, _, rfl⟩ := List.mem_map.1 ho
    exact obI_refs _ e
theorem obE_alive (l : List Ev) : ∀ ob ∈ obE l, ob.alive = true := fun ob ho => by
  rcases List.mem_cons.1 ho with rfl | ho
  · rfl
  · obtain ⟨e, _, rfl⟩ := List.mem_map.1 ho
    rfl
/-- n marks from k on. -/
def mInts : Int → Nat → List Int
  | _, 0 => []
  | k, n + 1 => k :: mInts (k + 1) n
theorem mInts_len : ∀ (n : Nat) (k : Int), (mInts k n).length = n
  | 0, k => rfl
  | n + 1, k => by simp [mInts, mInts_len n]
theorem mInts_succ : ∀ (n : Nat) (k : Int), mInts k (n + 1) = mInts k n ++ [k + n]
  | 0, k => by simp [mInts]
  | n + 1, k => by
    rw [mInts, mInts_succ n, mInts, List.cons_append]
    congr 3
    omega
theorem mInts_get : ∀ (n : Nat) (k : Int) (i : Nat), i < n → (mInts k n)[i]? = some (k + i)
  | n + 1, k, 0, h => by simp [mInts]
  | n + 1, k, i + 1, h => by
    simp only [mInts, List.getElem?_cons_succ]
    rw [mInts_get n _ i (by omega)]
    congr 1; omega
def mEv (k : Int) (e : Ev) : Ev := ⟨k, k + 1, k + 2, k + 3, k + 4, k + 5, mText (k + 6), mInts (k + 7) e.prev.length, k + 7 + e.prev.length⟩
def wM : List Ev → Int
  | [] => 0
  | e :: l => 8 + e.prev.length + wM l
def mEvs : Int → List Ev → List Ev
  | _, [] => []
  | k, e :: l => mEv k e :: mEvs (k + 8 + e.prev.length) l
theorem wM_nn : ∀ l : List Ev, 0 ≤ wM l
  | [] => Int.le_refl _
  | e :: l => by have := wM_nn l; unfold wM; omega
theorem wM_app : ∀ l l' : List Ev, wM (l ++ l') = wM l + wM l'
  | [], l' => by simp [wM]
  | e :: l, l' => by simp only [List.cons_append, wM, wM_app l l']; omega
theorem mEvs_len : ∀ (k : Int) (l : List Ev), (mEvs k l).length = l.length
  | _, [] => rfl
  | k, e :: l => by simp [mEvs, mEvs_len _ l]
theorem mEvs_get : ∀ (k : Int) (l : List Ev) (i : Nat), (mEvs k l)[i]? = (l[i]?).map (mEv (k + wM (l.take i)))
  | _, [], i => by simp [mEvs]
  | k, e :: l, 0 => by simp [mEvs, wM]
  | k, e :: l, i + 1 => by
    simp only [mEvs, List.getElem?_cons_succ, mEvs_get _ l i, List.take_succ_cons, wM]
    rw [show k + 8 + (e.prev.length : Int) + wM (l.take i) = k + (8 + (e.prev.length : Int) + wM (l.take i)) by omega]
theorem wM_le : ∀ l : List Ev, wM l ≤ 8 * (l.length + wEs l)
  | [] => by simp [wM, wEs]
  | e :: l => by
    have := wM_le l
    simp only [wM, wEs, wE, List.length_cons]
    omega
theorem mEvs_prev : ∀ (k : Int) (l : List Ev) (i : Nat) (x : Ev), (mEvs k l)[i]? = some x → ∃ e, l[i]? = some e ∧ x.prev.length = e.prev.length := fun k l i x h => by
  rw [mEvs_get] at h
  obtain ⟨e, h1, rfl⟩ := Option.map_eq_some_iff.1 h
  exact ⟨e, h1, mInts_len _ _⟩
/-- The first i marked. -/
def mixE (k : Int) (l : List Ev) (i : Nat) : List Ev := (mEvs k l).take i ++ l.drop i
theorem mixE_len {k : Int} {l : List Ev} {i : Nat} : (mixE k l i).length = l.length := by
  unfold mixE
  simp [mEvs_len]; omega
theorem mixE_zero (k : Int) (l : List Ev) : mixE k l 0 = l := by simp [mixE]
theorem mixE_all (k : Int) (l : List Ev) : mixE k l l.length = mEvs k l := by
  unfold mixE
  rw [List.take_of_length_le (by rw [mEvs_len]; omega), List.drop_eq_nil_of_le (Nat.le_refl _), List.append_nil]
theorem mixE_get {k : Int} {l : List Ev} {i : Nat} {e : Ev} (h : l[i]? = some e) : (mixE k l i)[i]? = some e := by
  have hi := (List.getElem?_eq_some_iff.1 h).1
  unfold mixE
  rw [List.getElem?_append_right (by simp; omega), List.length_take, mEvs_len, List.getElem?_drop, show i + (i - min i l.length) = i by omega]
  exact h
theorem mixE_set {k : Int} {l : List Ev} {i : Nat} {e : Ev} (h : l[i]? = some e) : (mixE k l i).set i (mEv (k + wM (l.take i)) e) = mixE k l (i + 1) := by
  have hi := (List.getElem?_eq_some_iff.1 h).1
  have hm : (mEvs k l)[i]? = some (mEv (k + wM (l.take i)) e) := by rw [mEvs_get, h]; rfl
  unfold mixE
  rw [List.set_append_right _ _ (by simp; omega), List.length_take, mEvs_len, show i - min i l.length = 0 by omega, drop_cons h, List.set_cons_zero, List.take_add_one, hm]
  simp
section
variable {P : Program} [Is P]
theorem n_toEvent (e : Ev) (he : EvOK e) : NCon P 57 [.agg (encEv e)] (.agg (rowEv 0 e)) [obI e] := by
  refine LCon.new (LCon.of (n := 33) (rs := [.cell 2 67]) (Is.fn Try.func57) rfl (Is.call Try.call57) Try.results57 Try.ntmps57 ?_) (pure1 (pure_ints _ _))
  simp (maxSteps := 4000000) only [method_specs_simp, seval]
  simp (maxSteps := 4000000) only [method_specs_simp, seval, encEv]
  refine clY.new (n_toInt64S e.prev he.2) (by simp only [method_specs_simp]) ?_
  simp (maxSteps := 4000000) only [method_specs_simp, seval]
  refine LResY.mk [3] ?_
  simp only [mvcgen_simp, method_specs_simp, seval, rowEv, obI]
/-- The first k rows laid, the others zero. -/
def rowsL (xs : List Ev) (k : Nat) : List (List V) := rowsEv 1 (xs.take k) ++ List.replicate (xs.length - k) zEv
theorem rowsL_len {xs : List Ev} {k : Nat} (hk : k ≤ xs.length) : (rowsL xs k).length = xs.length := by
  simp [rowsL, rowsEv_len, Nat.min_eq_left hk]; omega
theorem rowsL_zero (xs : List Ev) : rowsL xs 0 = List.replicate xs.length zEv := by simp [rowsL, rowsEv]
theorem rowsL_all (xs : List Ev) : rowsL xs xs.length = rowsEv 1 xs := by simp [rowsL]
theorem rowsL_get {xs : List Ev} {k : Nat} (hk : k < xs.length) : (rowsL xs k).getD k [] = zEv := by
  unfold rowsL
  rw [List.getD_eq_getElem?_getD, List.getElem?_append_right (by simp [rowsEv_len]; omega), rowsEv_len, List.length_take, show k - min k xs.length = 0 by omega, show xs.length - k = (xs.length - (k + 1)) + 1 by omega, List.replicate_succ]
  rfl
theorem rowsL_set {xs : List Ev} {k : Nat} {x : Ev} (hx : xs[k]? = some x) : (rowsL xs k).set k (rowEv (k + 1) x) = rowsL xs (k + 1) := by
  have hk := (List.getElem?_eq_some_iff.1 hx).1
  unfold rowsL
  rw [List.set_append_right _ _ (by simp [rowsEv_len]; omega), rowsEv_len, List.length_take, show k - min k xs.length = 0 by omega, show xs.length - k = (xs.length - (k + 1)) + 1 by omega, List.replicate_succ, List.set_cons_zero, List.take_add_one, hx, Option.toList_some, rowsEv_app, List.length_take, Nat.min_eq_left (by omega), List.append_assoc]
  simp [rowsEv, Nat.add_comm]
theorem n_toEventS (xs : List Ev) (hx : EvsOK xs) : LCon P 133 [.sl 9 (xs.map encEv)] [] (.ar 0 0 xs.length) (obE xs) := by
  have hx1 := hx.1
  refine LCon.ofJ (n := 23) (rs := [.tmp 2]) (Is.fn Try.func133) rfl (Is.call Try.call133) Try.results133 Try.ntmps133 ?_
  simp (maxSteps := 4000000) only [method_specs_simp, seval]
  refine ⟨by omega, by omega, by omega, ?_⟩
  refine SW.whileJ (A := Nat) (fun k => ⟨pad 23 [.sl 9 (xs.map encEv), .junk, .nil, .ar 0 0 xs.length, .int .i64 k], .arr true 9 (rowsL xs k) :: (xs.take k).map obI, []⟩) (fun k => xs.length - k) (fun k => k ≤ xs.length) 0 (Nat.zero_le _) ?_ ?_
  · have ez : List.replicate xs.length [V.int .i64 0, .int .i64 0, .int .i64 0, .int .i64 0, .int .i64 0, .int .i64 0, .str ByteArray.empty, .nil, .int .i64 0] = rowsL xs 0 := (rowsL_zero _).symm
    rw [ez]
    simp only [mvcgen_simp, method_specs_simp, seval]
  · intro k hk
    refine CW.sound ?_
    simp (maxSteps := 4000000) only [method_specs_simp, seval]
    refine gB_split (fun h => ?_) (fun h => ?_)
    · simp only [decide_eq_true_eq, Int.ofNat_lt] at h
      have hxk : xs[k]? = some xs[k] := List.getElem?_eq_getElem h
      have hOK := hx.2 _ (List.getElem_mem h)
      generalize xs[k] = x at hxk hOK
      simp (maxSteps := 4000000) only [List.getElem?_map, hxk, method_specs_simp, seval]
      refine ⟨by omega, by omega, by simp [encEv], ?_⟩
      rw [show List.take 9 (encEv x) = encEv x from rfl]
      have hl : ((xs.take k).map obI).length = k := by simp; omega
      refine clY.new (n_toEvent x hOK) (by simp only [method_specs_simp, encEv]) ?_
      simp (maxSteps := 4000000) only [method_specs_simp, seval, rowEv, hl]
      have e1 : (rowsL xs k).set k (V.int IntKind.i64 x.id :: V.int IntKind.i64 x.room :: V.int IntKind.i64 x.author :: V.int IntKind.i64 x.kind :: V.int IntKind.i64 x.key :: V.int IntKind.i64 x.n :: V.str x.text :: V.ar (k + 1) 0 x.prev.length :: V.int IntKind.i64 x.time :: List.drop 9 ((rowsL xs k).getD k [])) = rowsL xs (k + 1) := by
        rw [rowsL_get h]; exact rowsL_set hxk
      refine ⟨by omega, by omega, by rw [rowsL_len hk]; exact h, by rw [List.getElem?_append_right (by omega), hl, Nat.sub_self]; rfl, ?_⟩
      rw [wrap_id (by omega) (by omega)]
      refine AgainJ.mk (k + 1) h (Nat.sub_lt_sub_left h (Nat.lt_succ_self _)) ?_
      rw [e1, List.take_add_one, hxk, Option.toList_some, List.map_append, List.map_cons, List.map_nil]
      simp only [mvcgen_simp, method_specs_simp, seval]
    · simp only [decide_eq_false_iff_not, Bool.not_true, Int.ofNat_lt] at h
      have hi : k = xs.length := by omega
      subst hi
      rw [rowsL_all, List.take_of_length_le (Nat.le_refl _)]
      rfl
theorem n_markInt64S (xs : List Int) (k : Int) (h0 : 0 ≤ k) (h1 : k < 2 ^ 60) (hx : xs.length < 2 ^ 60) : LCon P 39 [.ar 0 0 xs.length, .int .i64 k] [.arr true 1 (xs.map encI)] (.int .i64 (k + xs.length)) [.arr true 1 ((mInts k xs.length).map encI)] := by
  refine LCon.of (n := 19) (rs := [.tmp 4]) (Is.fn Try.func39) rfl (Is.call Try.call39) Try.results39 Try.ntmps39 ?_
  simp (maxSteps := 4000000) only [method_specs_simp, seval]
  refine SW.while (A := Nat × List Int) (fun a => ⟨pad 19 [.ar 0 0 xs.length, .int .i64 (k + a.1), .junk, .junk, .junk, .int .i64 a.1], [.arr true 1 (a.2.map encI)], [.ar 0 0 xs.length, .eptr 0 1 0]⟩) (fun a => xs.length - a.1)
      (fun a => a.1 ≤ xs.length ∧ a.2.length = xs.length ∧ a.2.take a.1 = mInts k a.1) (0, xs) [0] ⟨Nat.zero_le _, rfl, rfl⟩ ?_ ?_
  · simp only [mvcgen_simp, method_specs_simp, seval]
    exact Int.add_zero k
  · rintro ⟨i, ys⟩ ⟨hi, hy, hr⟩
    simp only at hi hy hr
    refine CW.sound ?_
    simp (maxSteps := 4000000) only [method_specs_simp, seval, hy]
    refine gB_split (fun h => ?_) (fun h => ?_)
    · simp only [decide_eq_true_eq, Int.ofNat_lt] at h
      have e1 : IntKind.i64.wrap (k + (i : Int) + 1) = k + ((i + 1 : Nat) : Int) := by rw [wrap_id (by omega) (by omega)]; omega
      have e2 : IntKind.i64.wrap ((i : Int) + 1) = ((i + 1 : Nat) : Int) := by rw [wrap_id (by omega) (by omega)]; rfl
      simp (maxSteps := 4000000) only [method_specs_simp, seval, e1, e2]
      refine ⟨by omega, by omega, by omega, ?_⟩
      refine Again.mk (i + 1, ys.set i (k + i)) [0] ⟨h, by simpa using hy, by show List.take (i + 1) _ = _; rw [take_set' (by omega), hr, mInts_succ]⟩ (Nat.sub_lt_sub_left h (Nat.lt_succ_self _)) ?_
      simp only [mvcgen_simp, method_specs_simp, seval]
    · have hi2 : i = xs.length := by simp only [decide_eq_false_iff_not, Bool.not_true, Int.ofNat_lt] at h; omega
      subst hi2
      have e3 : ys = mInts k xs.length := by rw [← hr, List.take_of_length_le (by omega)]
      refine LResY.mk [0] ?_
      simp only [mvcgen_simp, method_specs_simp, seval, e3]
theorem c_heldInt64S (k : Int) (n : Nat) (h0 : 0 ≤ k) (h1 : k < 2 ^ 60) (hx : n < 2 ^ 60) : Con P 52 [.sl 1 ((mInts k n).map encI), .int .i64 k] (.int .i64 (k + n)) := by
  have e5 : ∀ a : Int, (a != a) = false := fun a => by simp
  have hml := mInts_len n k
  refine Con.of (n := 21) (rs := [.tmp 4]) (Is.fn Try.func52) rfl (Is.call Try.call52) Try.results52 Try.ntmps52 trivial ?_
  simp (maxSteps := 4000000) only [method_specs_simp, seval]
  refine SW.while (A := Nat) (fun i => ⟨pad 21 [.sl 1 ((mInts k n).map encI), .int .i64 (k + i), .junk, .junk, .int .i64 0, .int .i64 i], [], []⟩) (fun i => n - i) (fun i => i ≤ n) 0 [] (Nat.zero_le _) ?_ ?_
  · simp only [mvcgen_simp, method_specs_simp, seval]
    exact Int.add_zero k
  · intro i hi
    refine CW.sound ?_
    simp (maxSteps := 4000000) only [method_specs_simp, seval, hml]
    refine gB_split (fun h => ?_) (fun h => ?_)
    · simp only [decide_eq_true_eq, Int.ofNat_lt] at h
      have e1 : IntKind.i64.wrap (k + (i : Int) + 1) = k + ((i + 1 : Nat) : Int) := by rw [wrap_id (by omega) (by omega)]; omega
      have e2 : IntKind.i64.wrap ((i : Int) + 1) = ((i + 1 : Nat) : Int) := by rw [wrap_id (by omega) (by omega)]; rfl
      have hg := mInts_get n k i h
      simp (maxSteps := 4000000) only [method_specs_simp, seval, hg, encI, e5, e1, e2]
      refine ⟨by omega, by omega, ?_⟩
      refine Again.mk (i + 1) [] h (Nat.sub_lt_sub_left h (Nat.lt_succ_self _)) ?_
      simp only [mvcgen_simp, method_specs_simp, seval]
    · have hi2 : i = n := by simp only [decide_eq_false_iff_not, Bool.not_true, Int.ofNat_lt] at h; omega
      subst hi2
      trivial
theorem n_markEventS (xs : List Ev) (k : Int) (h0 : 0 ≤ k) (h1 : k < 2 ^ 58) (hx : EvsOK xs) (hw : k + wM xs < 2 ^ 58) : LCon P 69 [.ar 0 0 xs.length, .int .i64 k] (obE xs) (.int .i64 (k + wM xs)) (obE (mEvs k xs)) := by
  refine LCon.ofJ (n := 77) (rs := [.tmp 4]) (Is.fn Try.func69) rfl (Is.call Try.call69) Try.results69 Try.ntmps69 ?_
  simp (maxSteps := 4000000) only [method_specs_simp, seval]
  generalize hgg : plc 0 (obE xs) = gg
  have hx1 := hx.1
  refine SW.whileJ (A := Nat) (fun i => ⟨pad 77 [.ar 0 0 xs.length, .int .i64 (k + wM (xs.take i)), .junk, .junk, .junk, .int .i64 i], .arr true 9 (rowsEv 1 (mixE k xs i)) :: (mixE k xs i).map obI, gg⟩) (fun i => xs.length - i) (fun i => i ≤ xs.length) 0 (Nat.zero_le _) ?_ ?_
  · simp only [mvcgen_simp, method_specs_simp, seval]
    refine ⟨Int.add_zero k, ?_⟩
    rw [mixE_zero]; rfl
  · intro i hi
    have hrl : (rowsEv 1 (mixE k xs i)).length = xs.length := by rw [rowsEv_len, mixE_len]
    refine CW.sound ?_
    simp (maxSteps := 4000000) only [method_specs_simp, seval, hrl]
    refine gB_split (fun h => ?_) (fun h => ?_)
    · simp only [decide_eq_true_eq, Int.ofNat_lt] at h
      obtain ⟨x, hxk⟩ : ∃ x, xs[i]? = some x := ⟨_, List.getElem?_eq_getElem h⟩
      have hmx := mixE_get (k := k) hxk
      have eg : (rowsEv 1 (mixE k xs i)).getD i [] = rowEv (1 + i) x := by rw [List.getD_eq_getElem?_getD, rowsEv_get, hmx]; rfl
      obtain ⟨z, hz⟩ : ∃ z, z = k + wM (xs.take i) := ⟨_, rfl⟩
      have hb : 0 ≤ z ∧ z + 8 + x.prev.length < 2 ^ 58 := by
        have q := wM_app (xs.take i) (xs.drop i)
        rw [List.take_append_drop, drop_cons hxk, wM] at q
        have := wM_nn (xs.take i); have := wM_nn (xs.drop (i + 1))
        omega
      have hl : i < (rowsEv 1 (mixE k xs i)).length := by omega
      generalize hrr : rowsEv 1 (mixE k xs i) = rr at *
      have w1 : IntKind.i64.wrap (z + 1) = z + 1 := wrap_id (by omega) (by omega)
      have w2 : IntKind.i64.wrap (z + 1 + 1) = z + 2 := by rw [wrap_id (by omega) (by omega)]; omega
      have w3 : IntKind.i64.wrap (z + 2 + 1) = z + 3 := by rw [wrap_id (by omega) (by omega)]; omega
      have w4 : IntKind.i64.wrap (z + 3 + 1) = z + 4 := by rw [wrap_id (by omega) (by omega)]; omega
      have w5 : IntKind.i64.wrap (z + 4 + 1) = z + 5 := by rw [wrap_id (by omega) (by omega)]; omega
      have w6 : IntKind.i64.wrap (z + 5 + 1) = z + 6 := by rw [wrap_id (by omega) (by omega)]; omega
      have w7 : IntKind.i64.wrap (z + 6 + 1) = z + 7 := by rw [wrap_id (by omega) (by omega)]; omega
      have w9 : IntKind.i64.wrap ((i : Int) + 1) = ((i + 1 : Nat) : Int) := by rw [wrap_id (by omega) (by omega)]; rfl
      rw [← hz]
      have hgs : ∀ v : List V, (rr.set i v)[i]? = some v := fun v => List.getElem?_set_self hl
      simp (maxSteps := 4000000) only [method_specs_simp, seval, w1, w2, w3, w4, w5, w6, w7, eg, rowEv, List.set_set, getD_set' hl, List.length_set, hrl]
      refine ⟨by omega, by omega, by omega, by omega, by omega, by omega, by omega, by omega, by omega, by omega, by omega, by omega, by omega, by omega, by omega, by omega, by omega, by omega, ?_⟩
      refine clY.con (c147 _ (by omega)) (by simp only [method_specs_simp]) ?_
      simp (maxSteps := 4000000) only [method_specs_simp, seval, w1, w2, w3, w4, w5, w6, w7, eg, rowEv, List.set_set, getD_set' hl, List.length_set, hrl, hgs]
      refine ⟨by omega, by omega, by omega, by omega, by omega, ?_⟩
      have hob : ∀ o : Ob, (o :: (mixE k xs i).map obI)[1 + i]? = some (obI x) := fun o => by
        rw [Nat.add_comm, List.getElem?_cons_succ, List.getElem?_map, hmx]; rfl
      refine clY.at1 (n_markInt64S x.prev (z + 7) (by omega) (by omega) (by omega)) (hob _) (pure_ints _ _) (pure_ints _ _) trivial ⟨trivial, trivial⟩ (by simp only [convs, conv]) ?_
      have hst : ∀ o : Ob, (o :: (mixE k xs i).map obI).set (1 + i) (.arr true 1 ((mInts (z + 7) x.prev.length).map encI)) = o :: ((mixE k xs i).set i (mEv z x)).map obI := fun o => by
        rw [Nat.add_comm, List.set_cons_succ, List.map_set]; rfl
      rw [hst, hz, mixE_set hxk, ← hz]
      obtain ⟨z2, hz2⟩ : ∃ z2, z2 = z + 7 + (x.prev.length : Int) := ⟨_, rfl⟩
      have w8 : IntKind.i64.wrap (z2 + 1) = k + wM (xs.take (i + 1)) := by
        rw [wrap_id (by omega) (by omega), List.take_add_one, hxk, Option.toList_some, wM_app]; simp only [wM]; omega
      rw [← hz2]
      simp (maxSteps := 4000000) only [method_specs_simp, seval, w8, eg, List.set_set, getD_set' hl, List.length_set, hrl, hgs]
      refine ⟨by omega, by omega, by omega, ?_⟩
      have hrow : [V.int .i64 z, V.int .i64 (z + 1), V.int .i64 (z + 2), V.int .i64 (z + 3), V.int .i64 (z + 4), V.int .i64 (z + 5), V.str (mText (z + 6)), V.ar (1 + i) 0 x.prev.length, V.int .i64 z2] = rowEv (1 + i) (mEv z x) := by
        simp only [rowEv, mEv, mInts_len, hz2]
      rw [w9, hrow, ← hrr, rowsEv_set, hz, mixE_set hxk, ← hz]
      refine AgainJ.mk (i + 1) h (Nat.sub_lt_sub_left h (Nat.lt_succ_self _)) ?_
      simp only [mvcgen_simp, method_specs_simp, seval]
    · have hi2 : i = xs.length := by simp only [decide_eq_false_iff_not, Bool.not_true, Int.ofNat_lt] at h; omega
      subst hi2
      rw [List.take_of_length_le (Nat.le_refl _), mixE_all]
      exact ⟨rfl, rfl⟩
theorem mEvs_row {k : Int} {l : List Ev} {i : Nat} {x : Ev} (h : l[i]? = some x) : ((mEvs k l).map encEv)[i]? = some (encEv (mEv (k + wM (l.take i)) x)) := by
  rw [List.getElem?_map, mEvs_get, h]; rfl
theorem c_heldEventS (xs : List Ev) (k : Int) (h0 : 0 ≤ k) (h1 : k < 2 ^ 58) (hx : EvsOK xs) (hw : k + wM xs < 2 ^ 58) : Con P 70 [.sl 9 ((mEvs k xs).map encEv), .int .i64 k] (.int .i64 (k + wM xs)) := by
  have e5 : ∀ a : Int, (a != a) = false := fun a => by simp
  have e6 : ∀ a : List UInt8, (a == a) = true := fun a => by simp
  have hx1 := hx.1
  have hml := mEvs_len k xs
  refine Con.of (n := 95) (rs := [.tmp 4]) (Is.fn Try.func70) rfl (Is.call Try.call70) Try.results70 Try.ntmps70 trivial ?_
  simp (maxSteps := 4000000) only [method_specs_simp, seval]
  refine SW.while (A := Nat) (fun i => ⟨pad 95 [.sl 9 ((mEvs k xs).map encEv), .int .i64 (k + wM (xs.take i)), .junk, .junk, .int .i64 0, .int .i64 i], [], []⟩) (fun i => xs.length - i) (fun i => i ≤ xs.length) 0 [] (Nat.zero_le _) ?_ ?_
  · simp only [mvcgen_simp, method_specs_simp, seval]
    exact Int.add_zero k
  · intro i hi
    refine CW.sound ?_
    simp (maxSteps := 4000000) only [method_specs_simp, seval, hml]
    refine gB_split (fun h => ?_) (fun h => ?_)
    · simp only [decide_eq_true_eq, Int.ofNat_lt] at h
      obtain ⟨x, hxk⟩ : ∃ x, xs[i]? = some x := ⟨_, List.getElem?_eq_getElem h⟩
      have hmx := mEvs_row (k := k) hxk
      obtain ⟨z, hz⟩ : ∃ z, z = k + wM (xs.take i) := ⟨_, rfl⟩
      have hb : 0 ≤ z ∧ z + 8 + x.prev.length < 2 ^ 58 := by
        have q := wM_app (xs.take i) (xs.drop i)
        rw [List.take_append_drop, drop_cons hxk, wM] at q
        have := wM_nn (xs.take i); have := wM_nn (xs.drop (i + 1))
        omega
      have w1 : IntKind.i64.wrap (z + 1) = z + 1 := wrap_id (by omega) (by omega)
      have w2 : IntKind.i64.wrap (z + 1 + 1) = z + 2 := by rw [wrap_id (by omega) (by omega)]; omega
      have w3 : IntKind.i64.wrap (z + 2 + 1) = z + 3 := by rw [wrap_id (by omega) (by omega)]; omega
      have w4 : IntKind.i64.wrap (z + 3 + 1) = z + 4 := by rw [wrap_id (by omega) (by omega)]; omega
      have w5 : IntKind.i64.wrap (z + 4 + 1) = z + 5 := by rw [wrap_id (by omega) (by omega)]; omega
      have w6 : IntKind.i64.wrap (z + 5 + 1) = z + 6 := by rw [wrap_id (by omega) (by omega)]; omega
      have w7 : IntKind.i64.wrap (z + 6 + 1) = z + 7 := by rw [wrap_id (by omega) (by omega)]; omega
      have w9 : IntKind.i64.wrap ((i : Int) + 1) = ((i + 1 : Nat) : Int) := by rw [wrap_id (by omega) (by omega)]; rfl
      rw [← hz] at hmx
      rw [← hz]
      have hmx2 : (mEvs k xs)[i]? = some (mEv z x) := by rw [mEvs_get, hxk, ← hz]; rfl
      simp (maxSteps := 4000000) only [method_specs_simp, seval, w1, w2, w3, w4, w5, w6, w7, hmx2, encEv, mEv, e5, hml]
      have i1 : (0 : Int) ≤ i := by omega
      have i2 : (i : Int) < xs.length := by omega
      refine ⟨i1, i2, i1, i2, i1, i2, i1, i2, i1, i2, i1, i2, by kernel_rfl, i1, i2, ?_⟩
      refine clY.con (c147 _ (by omega)) (by simp only [method_specs_simp]) ?_
      simp (maxSteps := 4000000) only [method_specs_simp, seval, w7, hmx2, encEv, mEv, e5, e6, hml]
      refine ⟨i1, i2, ?_⟩
      refine clY.con (c_heldInt64S (z + 7) x.prev.length (by omega) (by omega) (by have := (hx.2 x (List.mem_of_getElem? hxk)).2; omega)) (by simp only [method_specs_simp]) ?_
      obtain ⟨z2, hz2⟩ : ∃ z2, z2 = z + 7 + (x.prev.length : Int) := ⟨_, rfl⟩
      have hn : decide (z2 < 0) = false := by simp; omega
      have w8 : IntKind.i64.wrap (z2 + 1) = k + wM (xs.take (i + 1)) := by
        rw [wrap_id (by omega) (by omega), List.take_add_one, hxk, Option.toList_some, wM_app]; simp only [wM]; omega
      rw [← hz2]
      simp (maxSteps := 4000000) only [method_specs_simp, seval, w8, w9, hn, hmx2, encEv, mEv, e5, hml, ← hz2]
      refine ⟨i1, i2, ?_⟩
      refine Again.mk (i + 1) [] h (Nat.sub_lt_sub_left h (Nat.lt_succ_self _)) ?_
      simp only [mvcgen_simp, method_specs_simp, seval]
    · have hi2 : i = xs.length := by simp only [decide_eq_false_iff_not, Bool.not_true, Int.ofNat_lt] at h; omega
      subst hi2
      rw [List.take_of_length_le (Nat.le_refl _)]
theorem n_markEvent (e : Ev) (k : Int) (h0 : 0 ≤ k) (h1 : k < 2 ^ 58) (he : EvOK e) : LCon P 48 [.agg (rowEv 0 e), .int .i64 k] [obI e] (.int .i64 (k + e.prev.length)) [.arr true 1 ((mInts k e.prev.length).map encI)] := by
  have he2 := he.2
  refine LCon.of (n := 10) (rs := [.tmp 4]) (Is.fn Try.func48) rfl (Is.call Try.call48) Try.results48 Try.ntmps48 ?_
  simp (maxSteps := 4000000) only [method_specs_simp, seval, rowEv, obI]
  refine clY.live [0] [] (n_markInt64S e.prev k h0 (by omega) (by omega)) ?_ (by simp) ?_
  · simp only [mvcgen_simp, method_specs_simp, seval, rowEv, obI]
  simp (maxSteps := 4000000) only [method_specs_simp, seval, rowEv, obI]
  refine LResY.mk [0] ?_
  simp only [mvcgen_simp, method_specs_simp, seval, rowEv, obI]
theorem c_heldEvent (e : Ev) (k : Int) (n : Nat) (h0 : 0 ≤ k) (h1 : k < 2 ^ 58) (hn : n < 2 ^ 58) (he : e.prev = mInts k n) : Con P 49 [.agg (encEv e), .int .i64 k] (.int .i64 (k + n)) := by
  have hh : decide (k + (n : Int) < 0) = false := by simp; omega
  refine Con.of (n := 12) (rs := [.tmp 4]) (Is.fn Try.func49) rfl (Is.call Try.call49) Try.results49 Try.ntmps49 trivial ?_
  simp (maxSteps := 4000000) only [method_specs_simp, seval, encEv, he]
  refine clY.con (c_heldInt64S k n h0 (by omega) (by omega)) (by simp only [method_specs_simp, encEv, he]) ?_
  simp (maxSteps := 4000000) only [method_specs_simp, seval, encEv, he, hh]
def obG (g : Gr) : List Ob := obE g.events ++ obEb (g.events.length + 1) g.parked
def grV (b : Nat) (g : Gr) : List V := [.int .i64 g.room, .ar b 0 g.events.length, .ar (b + (g.events.length + 1)) 0 g.parked.length]
theorem obEb_ren (b c : Nat) (l : List Ev) : (obEb c l).map (Ob.ren (b + ·)) = obEb (b + c) l := by
  unfold obEb
  simp only [List.map_cons, Ob.ren, rowsEv_ren, List.map_map]
  rw [Nat.add_assoc]
  congr 1
  exact List.map_congr_left fun e _ => obI_ren _ e
theorem obEb_refs {n b : Nat} (l : List Ev) (h : b + l.length < n) : ∀ ob ∈ obEb b l, ob.refs (· < n) := fun ob ho => by
  rcases List.mem_cons.1 ho with rfl | ho
  · exact rowsEv_refs (b + 1) l fun i h1 h2 => by omega
  · obtain ⟨e, _, rfl⟩ := List.mem_map.1 ho
    exact obI_refs _ e
theorem obG_len (g : Gr) : (obG g).length = g.events.length + 1 + (g.parked.length + 1) := by simp [obG, obE_len, obEb_len]
theorem obG_refs (g : Gr) : ∀ ob ∈ obG g, ob.refs (· < (obG g).length) := fun ob ho => by
  rw [obG_len]
  rcases List.mem_append.1 ho with ho | ho
  · exact obE_refs _ (by omega) ob ho
  · exact obEb_refs _ (by omega) ob ho
theorem obE_flat (l : List Ev) : ∀ ob ∈ obE l, ob.flat := fun ob ho => by
  rcases List.mem_cons.1 ho with rfl | ho
  · refine ⟨rfl, ?_⟩
    have : ∀ q (l : List Ev), Flatss (rowsEv q l) := fun q l => by
      induction l generalizing q with
      | nil => trivial
      | cons e l ih => exact ⟨⟨trivial, trivial, trivial, trivial, trivial, trivial, trivial, trivial, trivial, trivial⟩, ih (q + 1)⟩
    exact this 1 l
  · obtain ⟨e, _, rfl⟩ := List.mem_map.1 ho
    exact ⟨rfl, flat_ints _⟩
theorem dcv_zero (m : List Ob) (xs : List V) : xs.map (dcv 0 m) = xs := by
  induction xs with
  | nil => rfl
  | cons x xs ih => rw [List.map_cons, ih]; rfl
theorem n_toGraph (g : Gr) (hg : GrOK g) : LCon P 43 [.agg (encGr g)] [] (.agg (grV 0 g)) (obG g) := by
  refine LCon.of (n := 16) (rs := [.cell 2 71]) (Is.fn Try.func43) rfl (Is.call Try.call43) Try.results43 Try.ntmps43 ?_
  simp (maxSteps := 4000000) only [method_specs_simp, seval, encGr]
  refine clY.newD 0 (n_toEventS g.events hg.1) (dcv_zero _ _) (by simp only [method_specs_simp]) trivial (obE_flat _) ?_
  rw [obE_ren]
  simp (maxSteps := 4000000) only [method_specs_simp, seval, encGr, obEb]
  refine clY.newD 0 (n_toEventS g.parked hg.2) (dcv_zero _ _) (by simp only [method_specs_simp]) trivial (obE_flat _) ?_
  rw [obE_ren]
  simp (maxSteps := 4000000) only [method_specs_simp, seval, encGr, obEb]
  have hq : ∀ (o : Ob) (L : List Ob), (g.events.map obI ++ o :: L)[g.events.length]? = some o := fun o L => by
    rw [List.getElem?_append_right (by simp), List.length_map, Nat.sub_self]; rfl
  refine ⟨by unfold arrAt; rw [hq]; rfl, by rw [hq], by rw [hq], ?_⟩
  refine LResY.tail3 ?_ ?_ (obG_refs g) ?_
  · unfold obG
    rw [List.map_append, obE_ren, obEb_ren]
    unfold obEb
    simp only [List.length_cons, List.length_nil, List.cons_append, List.nil_append, Nat.zero_add]
    rw [show g.events.length + 1 + 1 + 1 + 1 + 1 = 3 + (g.events.length + 1) + 1 by omega]
  · simp only [grV, V.ren, rens, List.length_cons, List.length_nil, Nat.zero_add]
    rw [show 3 + (g.events.length + 1) = g.events.length + 4 by omega]
  · rw [obG_len]
    exact ⟨trivial, by show 0 < _; omega, by show 0 + (g.events.length + 1) < _; omega, trivial⟩
def mGr (k : Int) (g : Gr) : Gr := ⟨g.room, mEvs k g.events, mEvs (k + wM g.events) g.parked⟩
theorem n_markGraph (g : Gr) (k : Int) (h0 : 0 ≤ k) (h1 : k < 2 ^ 57) (hg : GrOK g) (hw : k + (wM g.events + wM g.parked) < 2 ^ 57) : LCon P 47 [.agg (grV 0 g), .int .i64 k] (obG g) (.int .i64 (k + (wM g.events + wM g.parked))) (obG (mGr k g)) := by
  have n1 := wM_nn g.events
  have n2 := wM_nn g.parked
  have q1 : ∀ o : Ob, (obG g ++ [o])[(obG g).length]? = some o := fun o => List.getElem?_concat_length
  have q2 : ∀ (lv : Bool) (cs : List V), boxAt (obG g ++ [Ob.box lv cs]) (obG g).length = some cs := fun lv cs => by unfold boxAt; rw [q1]
  refine LCon.of (n := 14) (rs := [.tmp 4]) (Is.fn Try.func47) rfl (Is.call Try.call47) Try.results47 Try.ntmps47 ?_
  simp (maxSteps := 4000000) only [method_specs_simp, seval, grV]
  simp (maxSteps := 4000000) only [method_specs_simp, seval, grV, q1, q2]
  generalize hbx : Ob.box true [V.int IntKind.i64 g.room, V.ar 0 0 g.events.length, V.ar (g.events.length + 1) 0 g.parked.length] = bx
  refine clY.seg (A := []) (B := obE g.events) (B' := obE (mEvs k g.events)) (C := obEb (g.events.length + 1) g.parked ++ [bx]) (n_markEventS g.events k h0 (by omega) hg.1 (by omega)) ?_ ?_ ?_ ?_ trivial ?_ ?_ ?_ ?_
  · rw [obE_len, obE_len, mEvs_len]
  · exact fun ob ho => ⟨obE_refs _ (by rw [obE_len]; omega) ob ho, obE_alive _ ob ho⟩
  · exact obE_refs _ (by rw [obE_len, mEvs_len]; omega)
  · rw [obE_len]; exact ⟨by show 0 < _; omega, trivial, trivial⟩
  · have e : (obE g.events).map (Ob.ren (([] : List Ob).length + ·)) = obE g.events := by rw [obE_b]; exact (obEb_ren 0 0 _)
    rw [e]
    simp only [obG, List.nil_append, List.append_assoc]
  · rfl
  · simp only [convs, conv, List.nil_append, List.append_nil]
    rfl
  have e : (obE (mEvs k g.events)).map (Ob.ren (([] : List Ob).length + ·)) = obE (mEvs k g.events) := by rw [obE_b]; exact (obEb_ren 0 0 _)
  rw [e, List.nil_append, ← List.append_assoc]
  obtain ⟨G2, hG2⟩ : ∃ G2, G2 = obE (mEvs k g.events) ++ obEb (g.events.length + 1) g.parked := ⟨_, rfl⟩
  have hl2 : G2.length = (obG g).length := by rw [hG2, obG_len, List.length_append, obE_len, obEb_len, mEvs_len]
  have q3 : ∀ o : Ob, (G2 ++ [o])[(obG g).length]? = some o := fun o => by rw [← hl2]; exact List.getElem?_concat_length
  have q4 : ∀ (lv : Bool) (cs : List V), boxAt (G2 ++ [Ob.box lv cs]) (obG g).length = some cs := fun lv cs => by unfold boxAt; rw [q3]
  rw [← hG2, ← hbx]
  simp (maxSteps := 4000000) only [method_specs_simp, seval, grV, q3, q4]
  rw [hbx, hG2]
  have hA : (obE (mEvs k g.events)).length = g.events.length + 1 := by rw [obE_len, mEvs_len]
  refine clY.seg (A := obE (mEvs k g.events)) (B := obE g.parked) (B' := obE (mEvs (k + wM g.events) g.parked)) (C := [bx]) (n_markEventS g.parked (k + wM g.events) (by omega) (by omega) hg.2 (by omega)) ?_ ?_ ?_ ?_ trivial ?_ ?_ ?_ ?_
  · rw [obE_len, obE_len, mEvs_len]
  · exact fun ob ho => ⟨obE_refs _ (by rw [obE_len]; omega) ob ho, obE_alive _ ob ho⟩
  · exact obE_refs _ (by rw [obE_len, mEvs_len]; omega)
  · rw [obE_len]; exact ⟨by show 0 < _; omega, trivial, trivial⟩
  · rw [hA, obE_ren]
  · simp only [rens, V.ren, hA, Nat.add_zero, List.nil_append, List.append_nil]
  · have hq : (obE (mEvs k g.events) ++ obEb (g.events.length + 1) g.parked ++ [bx])[g.events.length + 1]? = some (.arr true 9 (rowsEv (g.events.length + 1 + 1) g.parked)) := by
      rw [List.append_assoc, List.getElem?_append_right (by omega), hA, Nat.sub_self]; rfl
    simp only [convs, conv, List.nil_append, List.append_nil, hq]
  rw [hA, obE_ren]
  have hG3 : obE (mEvs k g.events) ++ obEb (g.events.length + 1) (mEvs (k + wM g.events) g.parked) = obG (mGr k g) := by
    unfold obG mGr
    simp only [mEvs_len]
  rw [hG3, show k + wM g.events + wM g.parked = k + (wM g.events + wM g.parked) by omega]
  obtain ⟨v, hv⟩ : ∃ v, v = k + (wM g.events + wM g.parked) := ⟨_, rfl⟩
  rw [← hv]
  simp (maxSteps := 4000000) only [method_specs_simp, seval, grV]
  refine LResY.head rfl ?_ (obG_refs _) trivial
  rw [obG_len, obG_len]
  simp only [mGr, mEvs_len]
end
end Go.Proofs.Ytkcllejnmpnjfaa
