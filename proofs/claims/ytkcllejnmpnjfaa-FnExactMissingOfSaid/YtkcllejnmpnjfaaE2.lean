/- The law of EventAt: for every graph and id. No conditions but the sizes that an input has. -/
import Derived.Test.YtkcllejnmpnjfaaE1
import Derived.Test.YtkcllejnmpnjfaaG10
namespace Go.Proofs.Ytkcllejnmpnjfaa
open Go.Pm
open Go.Gm (Ev Gr)
set_option maxRecDepth 10000
set_option linter.unusedSimpArgs false
set_option linter.unusedVariables false
set_option maxHeartbeats 4000000
/-- What lies past a stretch of N objects. -/
structure Past (G : List Ob) (N : Nat) : Prop where
  len : G.length = N
  g0 : ∀ L : List Ob, (G ++ L)[N]? = L[0]?
  g : ∀ (L : List Ob) (k : Nat), (G ++ L)[N + k]? = L[k]?
  b0 : ∀ L : List Ob, boxAt (G ++ L) N = boxAt L 0
  b : ∀ (L : List Ob) (k : Nat), boxAt (G ++ L) (N + k) = boxAt L k
  v0 : ∀ L : List Ob, boxLv (G ++ L) N = boxLv L 0
  v : ∀ (L : List Ob) (k : Nat), boxLv (G ++ L) (N + k) = boxLv L k
  a0 : ∀ L : List Ob, arrAt (G ++ L) N = arrAt L 0
  a : ∀ (L : List Ob) (k : Nat), arrAt (G ++ L) (N + k) = arrAt L k
  w0 : ∀ L : List Ob, arrLv (G ++ L) N = arrLv L 0
  w : ∀ (L : List Ob) (k : Nat), arrLv (G ++ L) (N + k) = arrLv L k
  s0 : ∀ (L : List Ob) (o : Ob), (G ++ L).set N o = G ++ L.set 0 o
  s : ∀ (L : List Ob) (k : Nat) (o : Ob), (G ++ L).set (N + k) o = G ++ L.set k o
theorem Past.mk' {G : List Ob} {N : Nat} (h : G.length = N) : Past G N := by
  have g : ∀ (L : List Ob) (k : Nat), (G ++ L)[N + k]? = L[k]? := fun L k => by
    rw [List.getElem?_append_right (by omega), h, Nat.add_sub_cancel_left]
  have g0 : ∀ L : List Ob, (G ++ L)[N]? = L[0]? := fun L => g L 0
  have s : ∀ (L : List Ob) (k : Nat) (o : Ob), (G ++ L).set (N + k) o = G ++ L.set k o := fun L k o => by
    rw [List.set_append_right _ _ (by omega), h, Nat.add_sub_cancel_left]
  exact ⟨h, g0, g, fun L => by unfold boxAt; rw [g0], fun L k => by unfold boxAt; rw [g], fun L => by unfold boxLv; rw [g0], fun L k => by unfold boxLv; rw [g], fun L => by unfold arrAt; rw [g0], fun L k => by unfold arrAt; rw [g], fun L => by unfold arrLv; rw [g0], fun L k => by unfold arrLv; rw [g], fun L o => s L 0 o, s⟩
/-- The objects of a graph, from object b on. -/
def obGb (b : Nat) (g : Gr) : List Ob := obEb b g.events ++ obEb (b + (g.events.length + 1)) g.parked
theorem obG_ren (b : Nat) (g : Gr) : (obG g).map (Ob.ren (b + ·)) = obGb b g := by
  unfold obG obGb
  rw [List.map_append, obE_ren, obEb_ren]
theorem obGb_len (b : Nat) (g : Gr) : (obGb b g).length = g.events.length + 1 + (g.parked.length + 1) := by simp [obGb, obEb_len]
/-- A graph lies in m from object b on. -/
def LiesG (m : List Ob) (b : Nat) (g : Gr) : Prop := ∀ i ob, (obGb b g)[i]? = some ob → m[b + i]? = some ob
theorem LiesG.mk {A C m : List Ob} {b : Nat} {g : Gr} (h : A.length = b) (em : m = A ++ (obGb b g ++ C)) : LiesG m b g := fun i ob hi => by
  subst em; subst h
  rw [List.getElem?_append_right (by omega), Nat.add_sub_cancel_left, List.getElem?_append_left (List.getElem?_eq_some_iff.1 hi).1]
  exact hi
theorem dcv_row {m : List Ob} {q : Nat} {e : Ev} (h : m[q]? = some (obI e)) : (rowEv q e).map (dcv 1 m) = encEv e := by
  simp only [rowEv, List.map_cons, List.map_nil, dcv, h, obI, encEv, List.drop_zero]
  rw [List.take_of_length_le (by simp)]
  congr 9
  simp only [List.map_id', List.map_id_fun']
  try simp
theorem dcv_ev {m : List Ob} {q : Nat} {e : Ev} (h : m[q]? = some (obI e)) : dcv 2 m (.agg (rowEv q e)) = .agg (encEv e) := by
  show V.agg ((rowEv q e).map (dcv 1 m)) = _
  rw [dcv_row h]
theorem dcv_enc (m : List Ob) (n : Nat) (e : Ev) : dcv (n + 2) m (.agg (encEv e)) = .agg (encEv e) := rfl
theorem dcv_encG (m : List Ob) (n : Nat) (g : Gr) : dcv (n + 2) m (.agg (encGr g)) = .agg (encGr g) := rfl
theorem dcv_rows {m : List Ob} : ∀ (l : List Ev) (q : Nat), (∀ i e, l[i]? = some e → m[q + i]? = some (obI e)) → (rowsEv q l).map (fun c => c.map (dcv 1 m)) = l.map encEv
  | [], q, h => rfl
  | e :: l, q, h => by
    simp only [rowsEv, List.map_cons]
    rw [dcv_row (q := q) (h 0 e rfl), dcv_rows l (q + 1) fun i x hi => by rw [Nat.add_assoc, Nat.add_comm 1 i]; exact h (i + 1) x hi]
theorem dcv_evs {m : List Ob} {b : Nat} {l : List Ev} (h : ∀ i ob, (obEb b l)[i]? = some ob → m[b + i]? = some ob) : dcv 2 m (.ar b 0 l.length) = .sl 9 (l.map encEv) := by
  have h0 := h 0 _ rfl
  rw [Nat.add_zero] at h0
  simp only [dcv, h0, List.drop_zero]
  rw [List.take_of_length_le (by rw [rowsEv_len]; exact Nat.le_refl _)]
  congr 1
  refine dcv_rows l (b + 1) fun i e hi => ?_
  rw [Nat.add_assoc, Nat.add_comm 1 i]
  refine h (i + 1) _ ?_
  unfold obEb
  rw [List.getElem?_cons_succ, List.getElem?_map, hi]; rfl
theorem LiesG.dcv {m : List Ob} {b : Nat} {g : Gr} (h : LiesG m b g) : Go.Pm.dcv 3 m (.agg (grV b g)) = .agg (encGr g) := by
  have h1 : Go.Pm.dcv 2 m (.ar b 0 g.events.length) = .sl 9 (g.events.map encEv) := dcv_evs fun i ob hi => h i ob (by
    unfold obGb
    rw [List.getElem?_append_left (List.getElem?_eq_some_iff.1 hi).1]; exact hi)
  have h2 : Go.Pm.dcv 2 m (.ar (b + (g.events.length + 1)) 0 g.parked.length) = .sl 9 (g.parked.map encEv) := dcv_evs fun i ob hi => by
    have := h (g.events.length + 1 + i) ob (by
      unfold obGb
      rw [List.getElem?_append_right (by rw [obEb_len]; omega), obEb_len, Nat.add_sub_cancel_left]; exact hi)
    rw [← this]; congr 1; omega
  show V.agg [Go.Pm.dcv 2 m (.int .i64 g.room), Go.Pm.dcv 2 m (.ar b 0 g.events.length), Go.Pm.dcv 2 m (.ar (b + (g.events.length + 1)) 0 g.parked.length)] = _
  rw [h1, h2]; rfl
theorem obGb_two (g : Gr) (a b : Ob) (L : List Ob) : (a :: b :: (obGb 2 g ++ L))[2 + (g.events.length + 1)]? = some (.arr true 9 (rowsEv (2 + (g.events.length + 1) + 1) g.parked)) := by
  rw [show 2 + (g.events.length + 1) = (g.events.length + 1) + 1 + 1 by omega, List.getElem?_cons_succ, List.getElem?_cons_succ]
  unfold obGb
  rw [List.append_assoc, List.getElem?_append_right (by rw [obEb_len]; omega), obEb_len, Nat.sub_self]
  unfold obEb
  rw [List.cons_append, List.getElem?_cons_zero, show 2 + (g.events.length + 1) = g.events.length + 1 + 1 + 1 by omega]
theorem obGb_at (g : Gr) (b : Nat) (L : List Ob) : (obGb b g ++ L)[g.events.length + 1]? = some (.arr true 9 (rowsEv (b + (g.events.length + 1) + 1) g.parked)) := by
  unfold obGb
  rw [List.append_assoc, List.getElem?_append_right (by rw [obEb_len]; omega), obEb_len, Nat.sub_self]
  rfl
theorem obGb_one (g : Gr) (a : Ob) (L : List Ob) : (a :: (obGb 1 g ++ L))[1 + (g.events.length + 1)]? = some (.arr true 9 (rowsEv (1 + (g.events.length + 1) + 1) g.parked)) := by
  rw [show 1 + (g.events.length + 1) = (g.events.length + 1) + 1 by omega, List.getElem?_cons_succ, obGb_at]
  rw [show 1 + (g.events.length + 1) = g.events.length + 1 + 1 by omega]
theorem obEb_flat (b : Nat) (l : List Ev) : ∀ ob ∈ obEb b l, ob.flat := fun ob ho => by
  rcases List.mem_cons.1 ho with rfl | ho
  · refine ⟨rfl, ?_⟩
    have : ∀ q (l : List Ev), Flatss (rowsEv q l) := fun q l => by
      induction l generalizing q with
      | nil => trivial
      | cons e l ih => exact ⟨⟨trivial, trivial, trivial, trivial, trivial, trivial, trivial, trivial, trivial, trivial⟩, ih (q + 1)⟩
    exact this _ l
  · obtain ⟨e, _, rfl⟩ := List.mem_map.1 ho
    exact ⟨rfl, flat_ints _⟩
theorem obG_flat (g : Gr) : ∀ ob ∈ obG g, ob.flat := fun ob ho => by
  rcases List.mem_append.1 ho with ho | ho
  · exact obE_flat _ ob ho
  · exact obEb_flat _ _ ob ho
theorem grV_flat (b : Nat) (g : Gr) : Flat (.agg (grV b g)) := ⟨trivial, trivial, trivial, trivial⟩
theorem obG_alive (g : Gr) : ∀ ob ∈ obG g, ob.alive = true := fun ob ho => by
  rcases List.mem_append.1 ho with ho | ho
  · exact obE_alive _ ob ho
  · rcases List.mem_cons.1 ho with rfl | ho
    · rfl
    · obtain ⟨e, _, rfl⟩ := List.mem_map.1 ho
      rfl
theorem convs_id {m : List Ob} : ∀ {xs : List V}, (∀ x ∈ xs, conv m x = x) → convs m xs = xs
  | [], _ => rfl
  | x :: xs, h => by rw [convs, h x List.mem_cons_self, convs_id fun y hy => h y (List.mem_cons_of_mem _ hy)]
/-- A call that writes a graph of the caller's. -/
theorem clY.segG {P : Program} {f : FuncId} {A L : List Ob} {rest : List V} {g g' : Gr} {r : V} {K KL : V → List Ob → Prop} (h : LCon P f (.agg (grV 0 g) :: rest) (obG g) r (obG g')) (hl : (obG g').length = (obG g).length)
    (hr : Ref (fun _ => False) r) (hrest : Refs (fun _ => False) rest) (hcv : ∀ m, convs m rest = rest)
    (k : KL r (A ++ (obGb A.length g' ++ L))) : @clY P (.fn f [] []) (.agg (grV A.length g) :: rest) (A ++ (obGb A.length g ++ L)) ⟨K, KL⟩ := by
  refine clY.seg (A := A) (B := obG g) (B' := obG g') (C := L) h hl (fun ob ho => ⟨obG_refs g ob ho, obG_alive g ob ho⟩) (fun ob ho => by rw [← hl]; exact obG_refs g' ob ho) ⟨?_, Refs.mono (fun _ h => h.elim) _ hrest⟩ (Ref.mono (fun _ h => h.elim) _ hr) ?_ ?_ ?_ ?_
  · rw [obG_len]
    exact ⟨trivial, by show 0 < _; omega, by show 0 + (g.events.length + 1) < _; omega, trivial⟩
  · rw [obG_ren, List.append_assoc]
  · simp only [grV, rens, V.ren, rens_pure _ hrest, List.nil_append, List.append_nil, Nat.add_zero, Nat.zero_add]
  · have h1 : (A ++ (obGb A.length g ++ L))[A.length]? = some (.arr true 9 (rowsEv (A.length + 1) g.events)) := by
      rw [List.getElem?_append_right (Nat.le_refl _), Nat.sub_self]; rfl
    have h2 : (A ++ (obGb A.length g ++ L))[A.length + (g.events.length + 1)]? = some (.arr true 9 (rowsEv (A.length + (g.events.length + 1) + 1) g.parked)) := by
      rw [List.getElem?_append_right (by omega), Nat.add_sub_cancel_left]
      unfold obGb
      rw [List.append_assoc, List.getElem?_append_right (by rw [obEb_len]; omega), obEb_len, Nat.sub_self]; rfl
    simp only [List.nil_append, List.append_nil, convs, hcv, grV, conv, h1, h2]
  · rw [V.ren_pure _ hr, obG_ren, List.append_assoc]; exact k
theorem clY.segG2 {P : Program} {f : FuncId} {a b : Ob} {G L : List Ob} {rest : List V} {g g' : Gr} {r : V} {K KL : V → List Ob → Prop} (hG : G = obGb 2 g) (h : LCon P f (.agg (grV 0 g) :: rest) (obG g) r (obG g')) (hl : (obG g').length = (obG g).length)
    (hr : Ref (fun _ => False) r) (hrest : Refs (fun _ => False) rest) (hcv : ∀ m, convs m rest = rest)
    (k : KL r (a :: b :: (obGb 2 g' ++ L))) : @clY P (.fn f [] []) (.agg (grV 2 g) :: rest) (a :: b :: (G ++ L)) ⟨K, KL⟩ := by
  subst hG
  exact clY.segG (A := [a, b]) h hl hr hrest hcv k
/-- A call that writes the Prev of an event of the caller's. -/
theorem clY.atE {P : Program} {f : FuncId} {q : Nat} {rest : List V} {m : List Ob} {e : Ev} {zs' : List (List V)} {r : V} {K KL : V → List Ob → Prop} (h : LCon P f (.agg (rowEv 0 e) :: rest) [obI e] r [.arr true 1 zs'])
    (hq : m[q]? = some (obI e)) (hp' : (Ob.arr true 1 zs').pure) (hr : Ref (fun _ => False) r) (hrest : Refs (fun _ => False) rest) (hcv : ∀ m, convs m rest = rest)
    (k : KL r (m.set q (.arr true 1 zs'))) : @clY P (.fn f [] []) (.agg (rowEv q e) :: rest) m ⟨K, KL⟩ := by
  have hlt := (List.getElem?_eq_some_iff.1 hq).1
  have hp : (obI e).pure := pure_ints _ _
  have hl : (m.take q).length = q := by rw [List.length_take]; omega
  have hx : (m.drop q) = obI e :: m.drop (q + 1) := by rw [List.drop_eq_getElem_cons hlt, (List.getElem?_eq_some_iff.1 hq).2]
  refine clY.seg (A := m.take q) (B := [obI e]) (B' := [.arr true 1 zs']) (C := m.drop (q + 1)) h rfl (fun ob ho => ?_) (fun ob ho => ?_) ⟨⟨trivial, trivial, trivial, trivial, trivial, trivial, trivial, Nat.zero_lt_one, trivial, trivial⟩, Refs.mono (fun _ h => h.elim) _ hrest⟩ (Ref.mono (fun _ h => h.elim) _ hr) ?_ ?_ ?_ ?_
  · rw [List.mem_singleton] at ho; subst ho; exact ⟨obI_refs _ _, rfl⟩
  · rw [List.mem_singleton] at ho; subst ho; exact Refss.mono (fun _ h => h.elim) _ hp'
  · rw [List.map_singleton, Ob.ren_pure _ hp, List.append_assoc, List.singleton_append, ← hx, List.take_append_drop]
  · simp only [rowEv, rens, V.ren, hl, Nat.add_zero, rens_pure _ hrest, List.nil_append, List.append_nil]
  · simp only [List.nil_append, List.append_nil, convs, hcv, rowEv, conv, hq, obI]
  · rw [V.ren_pure _ hr, List.map_singleton, Ob.ren_pure _ hp', List.append_assoc, List.singleton_append]
    have : m.take q ++ .arr true 1 zs' :: m.drop (q + 1) = m.set q (.arr true 1 zs') := by
      apply List.ext_getElem?
      intro j
      rw [List.getElem?_append, List.getElem?_set, hl, List.getElem?_take]
      by_cases h1 : j < q
      · rw [if_pos h1, if_pos h1, if_neg (by omega)]
      · rw [if_neg h1]
        by_cases h2 : q = j
        · subst h2
          rw [if_pos rfl, if_pos hlt, Nat.sub_self]; rfl
        · rw [if_neg h2, show j - q = (j - q - 1) + 1 by omega, List.getElem?_cons_succ, List.getElem?_drop]
          congr 1; omega
    rw [this]; exact k
theorem clY.segG1 {P : Program} {f : FuncId} {a : Ob} {G L : List Ob} {rest : List V} {g g' : Gr} {r : V} {K KL : V → List Ob → Prop} (hG : G = obGb 1 g) (h : LCon P f (.agg (grV 0 g) :: rest) (obG g) r (obG g')) (hl : (obG g').length = (obG g).length)
    (hr : Ref (fun _ => False) r) (hrest : Refs (fun _ => False) rest) (hcv : ∀ m, convs m rest = rest)
    (k : KL r (a :: (obGb 1 g' ++ L))) : @clY P (.fn f [] []) (.agg (grV 1 g) :: rest) (a :: (G ++ L)) ⟨K, KL⟩ := by
  subst hG
  exact clY.segG (A := [a]) h hl hr hrest hcv k
theorem mGr_len (k : Int) (g : Gr) : (obG (mGr k g)).length = (obG g).length := by rw [obG_len, obG_len]; simp only [mGr, mEvs_len]
section
variable {P : Program} [Is P]
theorem e_law (g : Gr) (id : Int) (e : Ev) (hg : GrOK g) (he : EvOK e) (h46 : Con P 42 [.agg (encGr g), .int .i64 id] (.agg (encEv e))) (h47 : LCon P 44 [.agg (encGr g), .int .i64 id] [] (.agg (rowEv 0 e)) [obI e]) :
    Con P 5 [.agg (encGr g), .int .i64 id] (.bool true) := by
  refine Con.of (n := 74) (rs := [.tmp 4]) (Is.fn Try.func5) rfl (Is.call Try.call5) Try.results5 Try.ntmps5 trivial ?_
  simp (maxSteps := 4000000) only [method_specs_simp, seval]
  refine clY.con (c_szGraph g 1048576 (by decide) (by decide) hg) (by simp only [method_specs_simp]) ?_
  simp (maxSteps := 4000000) only [method_specs_simp, seval]
  refine gB_split (fun _ => trivial) (fun w1 => ?_)
  obtain ⟨q1, q2, q3⟩ := sb_yes (wG_nn g) w1
  refine clY.con (c_toGraph g hg) (by simp only [method_specs_simp]) ?_
  simp (maxSteps := 4000000) only [method_specs_simp, seval]
  refine clY.con (h46) (by simp only [method_specs_simp]) ?_
  simp (maxSteps := 4000000) only [method_specs_simp, seval, encEv]
  refine clY.newD 0 (n_toGraph g hg) (dcv_zero _ _) (by simp only [method_specs_simp]) (grV_flat 0 g) (obG_flat g) ?_
  obtain ⟨G, hG⟩ : ∃ G, G = obGb 2 g := ⟨_, rfl⟩
  obtain ⟨N, hN⟩ : ∃ N, N = g.events.length + 1 + (g.parked.length + 1) := ⟨_, rfl⟩
  have hp : Past G N := Past.mk' (by rw [hG, hN, obGb_len])
  have hA1 : ∀ L : List Ob, (G ++ L)[0]? = some (.arr true 9 (rowsEv 3 g.events)) := fun L => by rw [hG]; rfl
  have hA2 : ∀ (a b : Ob) (L : List Ob), (a :: b :: (G ++ L))[2 + (g.events.length + 1)]? = some (.arr true 9 (rowsEv (2 + (g.events.length + 1) + 1) g.parked)) := fun a b L => by
    rw [hG]; exact obGb_two g a b L
  simp (maxSteps := 4000000) only [method_specs_simp, seval, hp.len, hp.g0, hp.g, hp.b0, hp.b, hp.v0, hp.v, hp.a0, hp.a, hp.w0, hp.w, hp.s0, hp.s, List.append_assoc, List.cons_append, List.nil_append, obG_ren, grV, ← hG, hA1, hA2]
  have hL : ∀ (a b : Ob) (L : List Ob), LiesG (a :: b :: (G ++ L)) 2 g := fun a b L => LiesG.mk (A := [a, b]) rfl (by rw [hG]; rfl)
  have hrow : ∀ (q : Nat) (m : List Ob), m[q]? = some (obI e) → (rowEv q e).map (dcv 1 m) = encEv e := fun q m h => dcv_row h
  refine clY.newD 3 h47 ?_ ⟨encGr_ref1 _ g, trivial, trivial⟩ ?_ (flat1 ⟨rfl, flat_ints _⟩) ?_
  · show [dcv 3 _ (.agg (grV 2 g)), dcv 3 _ (.int .i64 id)] = _
    rw [(hL _ _ _).dcv]; rfl
  · exact ⟨trivial, trivial, trivial, trivial, trivial, trivial, trivial, trivial, trivial, trivial⟩
  simp (maxSteps := 4000000) only [method_specs_simp, seval, hp.len, hp.g0, hp.g, hp.b0, hp.b, hp.v0, hp.v, hp.a0, hp.a, hp.w0, hp.w, hp.s0, hp.s, List.append_assoc, List.cons_append, List.nil_append, rowEv, obI_ren]
  have hI : ∀ ob : Ob, obI e = ob → (match some ob with | some (Ob.arr lv sz xs) => true | x => false) = true := fun ob h => by rw [← h]; rfl
  refine ⟨hI _ rfl, ?_⟩
  refine clY.conD 2 (c_eqEvent e he) ?_ ⟨encEv_ref1 _ e, encEv_ref1 _ e, trivial⟩ trivial ?_
  · show [dcv 2 _ (.agg (rowEv (N + 3) e)), dcv 2 _ (.agg (encEv e))] = _
    rw [dcv_ev, dcv_enc]
    simp (maxSteps := 4000000) only [method_specs_simp, seval, hp.len, hp.g0, hp.g, hp.b0, hp.b, hp.v0, hp.v, hp.a0, hp.a, hp.w0, hp.w, hp.s0, hp.s, List.append_assoc, List.cons_append, List.nil_append]
  simp (maxSteps := 4000000) only [method_specs_simp, seval, hp.len, hp.g0, hp.g, hp.b0, hp.b, hp.v0, hp.v, hp.a0, hp.a, hp.w0, hp.w, hp.s0, hp.s, List.append_assoc, List.cons_append, List.nil_append]
  refine ⟨by kernel_rfl, ?_⟩
  refine clY.con (c_toGraph g hg) (by simp only [method_specs_simp, hp.len, hp.g0, hp.g, hp.b0, hp.b, hp.v0, hp.v, hp.a0, hp.a, hp.w0, hp.w, hp.s0, hp.s, List.append_assoc, List.cons_append, List.nil_append]) ?_
  simp (maxSteps := 4000000) only [method_specs_simp, seval, hp.len, hp.g0, hp.g, hp.b0, hp.b, hp.v0, hp.v, hp.a0, hp.a, hp.w0, hp.w, hp.s0, hp.s, List.append_assoc, List.cons_append, List.nil_append]
  refine clY.conD 3 (c_eqGraph g hg) ?_ ⟨encGr_ref1 _ g, encGr_ref1 _ g, trivial⟩ trivial ?_
  · show [dcv 3 _ (.agg (grV 2 g)), dcv 3 _ (.agg (encGr g))] = _
    rw [(hL _ _ _).dcv, dcv_encG]
  simp (maxSteps := 4000000) only [method_specs_simp, seval, hp.len, hp.g0, hp.g, hp.b0, hp.b, hp.v0, hp.v, hp.a0, hp.a, hp.w0, hp.w, hp.s0, hp.s, List.append_assoc, List.cons_append, List.nil_append, Bool.not_true]
  have b1 := wM_le g.events
  have b2 := wM_le g.parked
  have b3 := wM_nn g.events
  have b4 := wM_nn g.parked
  have hwG : wG g = (g.events.length + wEs g.events) + (g.parked.length + wEs g.parked) := rfl
  have hk : decide (1 + (wM g.events + wM g.parked) < 0) = false := decide_eq_false (by omega)
  refine clY.segG2 hG (n_markGraph g 1 (by decide) (by decide) hg (by omega)) (mGr_len 1 g) trivial ⟨trivial, trivial⟩ (fun m => by simp only [convs, conv]) ?_
  obtain ⟨G2, hG2⟩ : ∃ G2, G2 = obGb 2 (mGr 1 g) := ⟨_, rfl⟩
  have hp2 : Past G2 N := Past.mk' (by rw [hG2, hN, obGb_len]; simp only [mGr, mEvs_len])
  rw [← hG2]
  simp (maxSteps := 4000000) only [method_specs_simp, seval, hk, hp2.len, hp2.g0, hp2.g, hp2.b0, hp2.b, hp2.v0, hp2.v, hp2.a0, hp2.a, hp2.w0, hp2.w, hp2.s0, hp2.s, List.append_assoc, List.cons_append, List.nil_append]
  refine clY.conD 2 (c_eqEvent e he) ?_ ⟨encEv_ref1 _ e, encEv_ref1 _ e, trivial⟩ trivial ?_
  · show [dcv 2 _ (.agg (rowEv (N + 3) e)), dcv 2 _ (.agg (encEv e))] = _
    rw [dcv_ev, dcv_enc]
    simp (maxSteps := 4000000) only [method_specs_simp, seval, hk, hp2.len, hp2.g0, hp2.g, hp2.b0, hp2.b, hp2.v0, hp2.v, hp2.a0, hp2.a, hp2.w0, hp2.w, hp2.s0, hp2.s, List.append_assoc, List.cons_append, List.nil_append]
  simp (maxSteps := 4000000) only [method_specs_simp, seval, hk, hp2.len, hp2.g0, hp2.g, hp2.b0, hp2.b, hp2.v0, hp2.v, hp2.a0, hp2.a, hp2.w0, hp2.w, hp2.s0, hp2.s, List.append_assoc, List.cons_append, List.nil_append]
  have he2 := he.2
  refine clY.atE (q := N + 3) (n_markEvent e 1 (by decide) (by decide) he) ?_ (pure_ints _ _) trivial ⟨trivial, trivial⟩ (fun m => by simp only [convs, conv]) ?_
  · simp (maxSteps := 4000000) only [method_specs_simp, seval, hk, hp2.len, hp2.g0, hp2.g, hp2.b0, hp2.b, hp2.v0, hp2.v, hp2.a0, hp2.a, hp2.w0, hp2.w, hp2.s0, hp2.s, List.append_assoc, List.cons_append, List.nil_append]
  obtain ⟨e2, hx2⟩ : ∃ e2 : Ev, e2 = ⟨e.id, e.room, e.author, e.kind, e.key, e.n, e.text, mInts 1 e.prev.length, e.time⟩ := ⟨_, rfl⟩
  have hx3 : e2.prev.length = e.prev.length := by rw [hx2]; exact mInts_len _ _
  have hrow2 : ∀ q, rowEv q e2 = [V.int .i64 e.id, V.int .i64 e.room, V.int .i64 e.author, V.int .i64 e.kind, V.int .i64 e.key, V.int .i64 e.n, V.str e.text, V.ar q 0 e.prev.length, V.int .i64 e.time] := fun q => by
    unfold rowEv; rw [hx3, hx2]
  have hob2 : Ob.arr true 1 ((mInts 1 e.prev.length).map encI) = obI e2 := by rw [hx2]; rfl
  rw [hob2]
  have hhe := c_heldEvent (P := P) e2 1 e.prev.length (by decide) (by decide) (by omega) (by rw [hx2])
  have hk2 : decide (1 + (e.prev.length : Int) < 0) = false := decide_eq_false (by omega)
  simp (maxSteps := 4000000) only [method_specs_simp, seval, hk2, bne_self_eq_false, Bool.not_true, hp2.len, hp2.g0, hp2.g, hp2.b0, hp2.b, hp2.v0, hp2.v, hp2.a0, hp2.a, hp2.w0, hp2.w, hp2.s0, hp2.s, List.append_assoc, List.cons_append, List.nil_append]
  refine clY.conD 2 hhe ?_ ⟨encEv_ref1 _ e2, trivial, trivial⟩ trivial ?_
  · rw [← hrow2]
    show [dcv 2 _ (.agg (rowEv (N + 3) e2)), dcv 2 _ (.int .i64 1)] = _
    rw [dcv_ev]
    rfl
    simp (maxSteps := 4000000) only [method_specs_simp, seval, hk2, bne_self_eq_false, Bool.not_true, hp2.len, hp2.g0, hp2.g, hp2.b0, hp2.b, hp2.v0, hp2.v, hp2.a0, hp2.a, hp2.w0, hp2.w, hp2.s0, hp2.s, List.append_assoc, List.cons_append, List.nil_append]
  simp (maxSteps := 4000000) only [method_specs_simp, seval, hk2, bne_self_eq_false, Bool.not_true, hp2.len, hp2.g0, hp2.g, hp2.b0, hp2.b, hp2.v0, hp2.v, hp2.a0, hp2.a, hp2.w0, hp2.w, hp2.s0, hp2.s, List.append_assoc, List.cons_append, List.nil_append]
  refine clY.con (c_toGraph g hg) (by simp only [method_specs_simp, hk2, bne_self_eq_false, Bool.not_true, hp2.len, hp2.g0, hp2.g, hp2.b0, hp2.b, hp2.v0, hp2.v, hp2.a0, hp2.a, hp2.w0, hp2.w, hp2.s0, hp2.s, List.append_assoc, List.cons_append, List.nil_append]) ?_
  simp (maxSteps := 4000000) only [method_specs_simp, seval, hk2, bne_self_eq_false, Bool.not_true, hp2.len, hp2.g0, hp2.g, hp2.b0, hp2.b, hp2.v0, hp2.v, hp2.a0, hp2.a, hp2.w0, hp2.w, hp2.s0, hp2.s, List.append_assoc, List.cons_append, List.nil_append]
  refine clY.newD 0 h47 (dcv_zero _ _) ⟨encGr_ref1 _ g, trivial, trivial⟩ ?_ (flat1 ⟨rfl, flat_ints _⟩) ?_
  · exact ⟨trivial, trivial, trivial, trivial, trivial, trivial, trivial, trivial, trivial, trivial⟩
  simp (maxSteps := 4000000) only [method_specs_simp, seval, hk2, bne_self_eq_false, Bool.not_true, hp2.len, hp2.g0, hp2.g, hp2.b0, hp2.b, hp2.v0, hp2.v, hp2.a0, hp2.a, hp2.w0, hp2.w, hp2.s0, hp2.s, List.append_assoc, List.cons_append, List.nil_append, rowEv, obI_ren]
  refine ⟨hI _ rfl, ?_⟩
  refine clY.conD 2 (c_eqEvent e he) ?_ ⟨encEv_ref1 _ e, encEv_ref1 _ e, trivial⟩ trivial ?_
  · show [dcv 2 _ (.agg (rowEv (N + 5) e)), dcv 2 _ (.agg (encEv e))] = _
    rw [dcv_ev, dcv_enc]
    simp (maxSteps := 4000000) only [method_specs_simp, seval, hk2, bne_self_eq_false, Bool.not_true, hp2.len, hp2.g0, hp2.g, hp2.b0, hp2.b, hp2.v0, hp2.v, hp2.a0, hp2.a, hp2.w0, hp2.w, hp2.s0, hp2.s, List.append_assoc, List.cons_append, List.nil_append]
  simp (maxSteps := 4000000) only [method_specs_simp, seval, hk2, bne_self_eq_false, Bool.not_true, hp2.len, hp2.g0, hp2.g, hp2.b0, hp2.b, hp2.v0, hp2.v, hp2.a0, hp2.a, hp2.w0, hp2.w, hp2.s0, hp2.s, List.append_assoc, List.cons_append, List.nil_append]
  refine clY.conD 2 hhe ?_ ⟨encEv_ref1 _ e2, trivial, trivial⟩ trivial ?_
  · rw [← hrow2]
    show [dcv 2 _ (.agg (rowEv (N + 3) e2)), dcv 2 _ (.int .i64 1)] = _
    rw [dcv_ev]
    rfl
    simp (maxSteps := 4000000) only [method_specs_simp, seval, hk2, bne_self_eq_false, Bool.not_true, hp2.len, hp2.g0, hp2.g, hp2.b0, hp2.b, hp2.v0, hp2.v, hp2.a0, hp2.a, hp2.w0, hp2.w, hp2.s0, hp2.s, List.append_assoc, List.cons_append, List.nil_append]
  simp (maxSteps := 4000000) only [method_specs_simp, seval, hk2, bne_self_eq_false, Bool.not_true, hp2.len, hp2.g0, hp2.g, hp2.b0, hp2.b, hp2.v0, hp2.v, hp2.a0, hp2.a, hp2.w0, hp2.w, hp2.s0, hp2.s, List.append_assoc, List.cons_append, List.nil_append]
theorem c_markNil (k : Int) : Con P 39 [.nil, .int .i64 k] (.int .i64 k) := by
  have h : Con P 39 [.sl 1 [], .int .i64 k] (.int .i64 k) := by
    refine Con.of (n := 19) (rs := [.tmp 4]) (Is.fn Try.func39) rfl (Is.call Try.call39) Try.results39 Try.ntmps39 trivial ?_
    simp (maxSteps := 4000000) only [method_specs_simp, seval]
    refine SW.while (A := Unit) (fun _ => ⟨pad 19 [.sl 1 [], .int .i64 k, .junk, .junk, .int .i64 0, .int .i64 0], [], []⟩) (fun _ => 0) (fun _ => True) () [] trivial ?_ ?_
    · simp only [mvcgen_simp, method_specs_simp, seval]
    · intro _ _
      refine CW.sound ?_
      simp (maxSteps := 4000000) only [method_specs_simp, seval, List.length_nil]
  exact h.weak (VLes.cons (VLe.nil 1) (VLes.same VLes.nil))
theorem c_markEvZ (k : Int) : Con P 48 [.agg zEv, .int .i64 k] (.int .i64 k) := by
  refine Con.of (n := 10) (rs := [.tmp 4]) (Is.fn Try.func48) rfl (Is.call Try.call48) Try.results48 Try.ntmps48 trivial ?_
  simp (maxSteps := 4000000) only [method_specs_simp, seval, zEv]
  refine clY.con (c_markNil k) (by simp only [method_specs_simp, zEv]) ?_
  simp (maxSteps := 4000000) only [method_specs_simp, seval, zEv]
theorem c_heldEvZ (k : Int) (h0 : 0 ≤ k) (h1 : k < 2 ^ 58) : Con P 49 [.agg zEv, .int .i64 k] (.int .i64 k) := by
  have h := c_heldEvent (P := P) zE k 0 h0 h1 (by decide) rfl
  rw [show k + ((0 : Nat) : Int) = k by omega] at h
  exact h.weak (VLes.cons (VLe.agg VLe.zEv) (VLes.same VLes.nil))
theorem c_eqEvZ : Con P 45 [.agg zEv, .agg zEv] (.bool true) := (c_eqEvent zE zE_ok).weak (VLes.cons (VLe.agg VLe.zEv) (VLes.cons (VLe.agg VLe.zEv) VLes.nil))
theorem e_lawZ (g : Gr) (id : Int) (hg : GrOK g) (h46 : Con P 42 [.agg (encGr g), .int .i64 id] (.agg zEv)) (h47 : Con P 44 [.agg (encGr g), .int .i64 id] (.agg zEv)) :
    Con P 5 [.agg (encGr g), .int .i64 id] (.bool true) := by
  refine Con.of (n := 74) (rs := [.tmp 4]) (Is.fn Try.func5) rfl (Is.call Try.call5) Try.results5 Try.ntmps5 trivial ?_
  simp (maxSteps := 4000000) only [method_specs_simp, seval]
  refine clY.con (c_szGraph g 1048576 (by decide) (by decide) hg) (by simp only [method_specs_simp]) ?_
  simp (maxSteps := 4000000) only [method_specs_simp, seval]
  refine gB_split (fun _ => trivial) (fun w1 => ?_)
  obtain ⟨q1, q2, q3⟩ := sb_yes (wG_nn g) w1
  refine clY.con (c_toGraph g hg) (by simp only [method_specs_simp]) ?_
  simp (maxSteps := 4000000) only [method_specs_simp, seval]
  refine clY.con (h46) (by simp only [method_specs_simp]) ?_
  simp (maxSteps := 4000000) only [method_specs_simp, seval, zEv]
  refine clY.newD 0 (n_toGraph g hg) (dcv_zero _ _) (by simp only [method_specs_simp]) (grV_flat 0 g) (obG_flat g) ?_
  obtain ⟨G, hG⟩ : ∃ G, G = obGb 2 g := ⟨_, rfl⟩
  obtain ⟨N, hN⟩ : ∃ N, N = g.events.length + 1 + (g.parked.length + 1) := ⟨_, rfl⟩
  have hp : Past G N := Past.mk' (by rw [hG, hN, obGb_len])
  have hA1 : ∀ L : List Ob, (G ++ L)[0]? = some (.arr true 9 (rowsEv 3 g.events)) := fun L => by rw [hG]; rfl
  have hA2 : ∀ (a b : Ob) (L : List Ob), (a :: b :: (G ++ L))[2 + (g.events.length + 1)]? = some (.arr true 9 (rowsEv (2 + (g.events.length + 1) + 1) g.parked)) := fun a b L => by
    rw [hG]; exact obGb_two g a b L
  simp (maxSteps := 4000000) only [method_specs_simp, seval, hp.len, hp.g0, hp.g, hp.b0, hp.b, hp.v0, hp.v, hp.a0, hp.a, hp.w0, hp.w, hp.s0, hp.s, List.append_assoc, List.cons_append, List.nil_append, obG_ren, grV, ← hG, hA1, hA2]
  have hL : ∀ (a b : Ob) (L : List Ob), LiesG (a :: b :: (G ++ L)) 2 g := fun a b L => LiesG.mk (A := [a, b]) rfl (by rw [hG]; rfl)
  refine clY.conD 3 h47 ?_ ⟨encGr_ref1 _ g, trivial, trivial⟩ ⟨trivial, trivial, trivial, trivial, trivial, trivial, trivial, trivial, trivial, trivial⟩ ?_
  · show [dcv 3 _ (.agg (grV 2 g)), dcv 3 _ (.int .i64 id)] = _
    rw [(hL _ _ _).dcv]; rfl
  simp (maxSteps := 4000000) only [method_specs_simp, seval, hp.len, hp.g0, hp.g, hp.b0, hp.b, hp.v0, hp.v, hp.a0, hp.a, hp.w0, hp.w, hp.s0, hp.s, List.append_assoc, List.cons_append, List.nil_append, zEv]
  refine clY.con c_eqEvZ (by simp only [method_specs_simp, zEv]) ?_
  simp (maxSteps := 4000000) only [method_specs_simp, seval, hp.len, hp.g0, hp.g, hp.b0, hp.b, hp.v0, hp.v, hp.a0, hp.a, hp.w0, hp.w, hp.s0, hp.s, List.append_assoc, List.cons_append, List.nil_append]
  refine ⟨by kernel_rfl, ?_⟩
  refine clY.con (c_toGraph g hg) (by simp only [method_specs_simp, hp.len, hp.g0, hp.g, hp.b0, hp.b, hp.v0, hp.v, hp.a0, hp.a, hp.w0, hp.w, hp.s0, hp.s, List.append_assoc, List.cons_append, List.nil_append]) ?_
  simp (maxSteps := 4000000) only [method_specs_simp, seval, hp.len, hp.g0, hp.g, hp.b0, hp.b, hp.v0, hp.v, hp.a0, hp.a, hp.w0, hp.w, hp.s0, hp.s, List.append_assoc, List.cons_append, List.nil_append]
  refine clY.conD 3 (c_eqGraph g hg) ?_ ⟨encGr_ref1 _ g, encGr_ref1 _ g, trivial⟩ trivial ?_
  · show [dcv 3 _ (.agg (grV 2 g)), dcv 3 _ (.agg (encGr g))] = _
    rw [(hL _ _ _).dcv, dcv_encG]
  simp (maxSteps := 4000000) only [method_specs_simp, seval, hp.len, hp.g0, hp.g, hp.b0, hp.b, hp.v0, hp.v, hp.a0, hp.a, hp.w0, hp.w, hp.s0, hp.s, List.append_assoc, List.cons_append, List.nil_append, Bool.not_true]
  have b1 := wM_le g.events
  have b2 := wM_le g.parked
  have b3 := wM_nn g.events
  have b4 := wM_nn g.parked
  have hwG : wG g = (g.events.length + wEs g.events) + (g.parked.length + wEs g.parked) := rfl
  have hk : decide (1 + (wM g.events + wM g.parked) < 0) = false := decide_eq_false (by omega)
  refine clY.segG2 hG (n_markGraph g 1 (by decide) (by decide) hg (by omega)) (mGr_len 1 g) trivial ⟨trivial, trivial⟩ (fun m => by simp only [convs, conv]) ?_
  obtain ⟨G2, hG2⟩ : ∃ G2, G2 = obGb 2 (mGr 1 g) := ⟨_, rfl⟩
  have hp2 : Past G2 N := Past.mk' (by rw [hG2, hN, obGb_len]; simp only [mGr, mEvs_len])
  rw [← hG2]
  simp (maxSteps := 4000000) only [method_specs_simp, seval, hk, bne_self_eq_false, Bool.not_true, hp2.len, hp2.g0, hp2.g, hp2.b0, hp2.b, hp2.v0, hp2.v, hp2.a0, hp2.a, hp2.w0, hp2.w, hp2.s0, hp2.s, List.append_assoc, List.cons_append, List.nil_append]
  refine clY.con c_eqEvZ (by simp only [method_specs_simp, zEv]) ?_
  simp (maxSteps := 4000000) only [method_specs_simp, seval, hk, bne_self_eq_false, Bool.not_true, hp2.len, hp2.g0, hp2.g, hp2.b0, hp2.b, hp2.v0, hp2.v, hp2.a0, hp2.a, hp2.w0, hp2.w, hp2.s0, hp2.s, List.append_assoc, List.cons_append, List.nil_append]
  refine clY.con (c_markEvZ 1) (by simp only [method_specs_simp, zEv]) ?_
  simp (maxSteps := 4000000) only [method_specs_simp, seval, hk, bne_self_eq_false, Bool.not_true, hp2.len, hp2.g0, hp2.g, hp2.b0, hp2.b, hp2.v0, hp2.v, hp2.a0, hp2.a, hp2.w0, hp2.w, hp2.s0, hp2.s, List.append_assoc, List.cons_append, List.nil_append]
  refine clY.con (c_heldEvZ 1 (by decide) (by decide)) (by simp only [method_specs_simp, zEv]) ?_
  simp (maxSteps := 4000000) only [method_specs_simp, seval, hk, bne_self_eq_false, Bool.not_true, hp2.len, hp2.g0, hp2.g, hp2.b0, hp2.b, hp2.v0, hp2.v, hp2.a0, hp2.a, hp2.w0, hp2.w, hp2.s0, hp2.s, List.append_assoc, List.cons_append, List.nil_append]
  refine clY.con (c_toGraph g hg) (by simp only [method_specs_simp, hk, bne_self_eq_false, Bool.not_true, hp2.len, hp2.g0, hp2.g, hp2.b0, hp2.b, hp2.v0, hp2.v, hp2.a0, hp2.a, hp2.w0, hp2.w, hp2.s0, hp2.s, List.append_assoc, List.cons_append, List.nil_append]) ?_
  simp (maxSteps := 4000000) only [method_specs_simp, seval, hk, bne_self_eq_false, Bool.not_true, hp2.len, hp2.g0, hp2.g, hp2.b0, hp2.b, hp2.v0, hp2.v, hp2.a0, hp2.a, hp2.w0, hp2.w, hp2.s0, hp2.s, List.append_assoc, List.cons_append, List.nil_append]
  refine clY.con (h47) (by simp only [method_specs_simp, hk, bne_self_eq_false, Bool.not_true, hp2.len, hp2.g0, hp2.g, hp2.b0, hp2.b, hp2.v0, hp2.v, hp2.a0, hp2.a, hp2.w0, hp2.w, hp2.s0, hp2.s, List.append_assoc, List.cons_append, List.nil_append]) ?_
  simp (maxSteps := 4000000) only [method_specs_simp, seval, hk, bne_self_eq_false, Bool.not_true, hp2.len, hp2.g0, hp2.g, hp2.b0, hp2.b, hp2.v0, hp2.v, hp2.a0, hp2.a, hp2.w0, hp2.w, hp2.s0, hp2.s, List.append_assoc, List.cons_append, List.nil_append, zEv]
  refine clY.con c_eqEvZ (by simp only [method_specs_simp, zEv]) ?_
  simp (maxSteps := 4000000) only [method_specs_simp, seval, hk, bne_self_eq_false, Bool.not_true, hp2.len, hp2.g0, hp2.g, hp2.b0, hp2.b, hp2.v0, hp2.v, hp2.a0, hp2.a, hp2.w0, hp2.w, hp2.s0, hp2.s, List.append_assoc, List.cons_append, List.nil_append]
  refine clY.con (c_heldEvZ 1 (by decide) (by decide)) (by simp only [method_specs_simp, zEv]) ?_
  simp (maxSteps := 4000000) only [method_specs_simp, seval, hk, bne_self_eq_false, Bool.not_true, hp2.len, hp2.g0, hp2.g, hp2.b0, hp2.b, hp2.v0, hp2.v, hp2.a0, hp2.a, hp2.w0, hp2.w, hp2.s0, hp2.s, List.append_assoc, List.cons_append, List.nil_append]
theorem c_FnExactEventAt (g : Gr) (id : Int) (hg : GrOK g) : Con P 5 [.agg (encGr g), .int .i64 id] (.bool true) := by
  cases hr : Gm.grRight g with
  | true => exact e_law g id _ hg (at_ok hg id) (c_sEventAt g id hg hr) (n_EventAt g id hg hr)
  | false => exact e_lawZ g id hg (c_sEventAtZ g id hg hr) (c_EventAtZ g id hg hr)
end
end Go.Proofs.Ytkcllejnmpnjfaa
