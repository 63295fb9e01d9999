/- What a graph's parked events wait for: both sides come to one rising list. Conditions: lengths that fit a machine. -/
import Derived.Test.YtkcllejnmpnjfaaM1
import Derived.Test.YtkcllejnmpnjfaaG5
import Derived.Test.YtkcllejnmpnjfaaG6
import Derived.Test.YtkcllejnmpnjfaaH9
namespace Go.Proofs.Ytkcllejnmpnjfaa
open Go.Pm
open Go.Gm (Ev Gr)
set_option maxRecDepth 10000
set_option linter.unusedSimpArgs false
set_option linter.unusedVariables false
theorem convs_r8m {m : List Ob} {a b c d e f g h : V} {l : List V} : convs m (r8 a b c d e f g h l) = r8 (conv m a) (conv m b) (conv m c) (conv m d) (conv m e) (conv m f) (conv m g) (conv m h) (convs m l) := rfl
theorem conv_junkm {m : List Ob} : conv m .junk = .junk := rfl
theorem atI_neg (l : List Ev) (id : Int) : decide (atI l id < 0) = !Gm.hasId l id := by
  unfold atI
  cases Gm.hasId l id with
  | true => simp only [if_true, Bool.not_true, decide_eq_false_iff_not]; omega
  | false => rfl
def LtI (x y : Int) : Prop := x < y
theorem ltI_str : Gm.Str LtI := ⟨fun x (h : x < x) => by omega, fun x y z (h1 : x < y) (h2 : y < z) => (by omega : x < z)⟩
def Rise (l : List Int) : Prop := l.Pairwise LtI
theorem Rise.nodup {l : List Int} (h : Rise l) : l.Nodup := List.Pairwise.imp (fun {x y} (h : x < y) e => by subst e; omega) h
theorem rise_one {l1 l2 : List Int} (h1 : Rise l1) (h2 : Rise l2) (h : ∀ x, x ∈ l1 ↔ x ∈ l2) : l1 = l2 := Gm.sorted_one ltI_str ((List.perm_ext_iff_of_nodup h1.nodup h2.nodup).2 h) h1 h2
theorem lessI_split (l : List Int) (n : Int) (h : Rise l) : (∀ x ∈ l.take (lessI l n), x < n) ∧ ∀ x ∈ l.drop (lessI l n), n ≤ x := by
  induction l with
  | nil => simp [lessI]
  | cons y l ih =>
    have h1 := List.pairwise_cons.1 h
    obtain ⟨i1, i2⟩ := ih h1.2
    unfold lessI at i1 i2 ⊢
    rw [List.takeWhile_cons]
    by_cases hy : y < n
    · rw [if_pos (by simpa using hy)]
      simp only [List.length_cons, List.take_succ_cons, List.drop_succ_cons, List.mem_cons]
      exact ⟨fun x hx => hx.elim (fun e => e ▸ hy) (i1 x), i2⟩
    · rw [if_neg (by simpa using hy)]
      simp only [List.length_nil, List.take_zero, List.drop_zero, List.mem_cons, List.not_mem_nil, false_implies, implies_true, true_and]
      intro x hx
      rcases hx with rfl | hx
      · omega
      · have : y < x := h1.1 x hx
        omega
theorem setI_mem {l : List Int} {n : Int} (h : Rise l) {x : Int} : x ∈ setI l n ↔ x = n ∨ x ∈ l := by
  unfold setI
  split
  · rename_i hn
    exact ⟨.inr, fun hx => hx.elim (fun e => e ▸ List.mem_of_getElem? hn) id⟩
  · conv => rhs; rw [← List.take_append_drop (lessI l n) l]
    simp only [List.mem_append, List.mem_cons]
    constructor
    · rintro (h | rfl | h)
      · exact .inr (.inl h)
      · exact .inl rfl
      · exact .inr (.inr h)
    · rintro (rfl | h | h)
      · exact .inr (.inl rfl)
      · exact .inl h
      · exact .inr (.inr h)
theorem setI_rise {l : List Int} {n : Int} (h : Rise l) : Rise (setI l n) := by
  have hs := lessI_split l n h
  unfold setI
  split
  · exact h
  · rename_i hne
    have h1 : Rise (l.take (lessI l n)) := h.sublist (List.take_sublist _ _)
    have h2 : Rise (l.drop (lessI l n)) := h.sublist (List.drop_sublist _ _)
    have h3 : ∀ x ∈ l.drop (lessI l n), n < x := by
      intro x hx
      have hle := hs.2 x hx
      rcases Int.lt_or_eq_of_le hle with h4 | h4
      · exact h4
      · exfalso
        subst h4
        obtain ⟨j, hj⟩ := List.mem_iff_getElem?.1 hx
        cases j with
        | zero => rw [List.getElem?_drop] at hj; exact hne (by simpa using hj)
        | succ j =>
          obtain ⟨y, hy⟩ : ∃ y, (l.drop (lessI l n))[0]? = some y := by
            cases hd : l.drop (lessI l n) with
            | nil => rw [hd] at hj; simp at hj
            | cons y t => exact ⟨y, rfl⟩
          have hlt : y < n := Gm.pw_get h2 (Nat.zero_lt_succ j) hy hj
          have := hs.2 y (List.mem_of_getElem? hy)
          omega
    refine List.pairwise_append.2 ⟨h1, List.pairwise_cons.2 ⟨h3, h2⟩, fun x hx y hy => ?_⟩
    have hx1 := hs.1 x hx
    rcases List.mem_cons.1 hy with rfl | hy
    · exact hx1
    · have := hs.2 y hy
      show x < y
      omega
theorem foldSet {l : List Int} : ∀ {a : List Int}, Rise a → Rise (l.foldl setI a) ∧ ∀ x, x ∈ l.foldl setI a ↔ x ∈ l ∨ x ∈ a := by
  induction l with
  | nil => exact fun h => ⟨h, fun x => by simp⟩
  | cons y l ih =>
    intro a h
    obtain ⟨h1, h2⟩ := ih (setI_rise (n := y) h)
    refine ⟨h1, fun x => ?_⟩
    rw [List.foldl_cons, h2, setI_mem h, List.mem_cons]
    constructor
    · rintro (h | h | h)
      · exact .inl (.inr h)
      · exact .inl (.inl h)
      · exact .inr h
    · rintro ((h | h) | h)
      · exact .inr (.inl h)
      · exact .inl h
      · exact .inr (.inr h)
theorem foldSet_len (l : List Int) : (l.foldl setI []).length ≤ l.length := by
  have : ∀ (l a : List Int), (l.foldl setI a).length ≤ l.length + a.length := by
    intro l
    induction l with
    | nil => intro a; simp
    | cons y l ih =>
      intro a
      have h1 := ih (setI a y)
      have h2 := setI_len a y
      simp only [List.foldl_cons, List.length_cons]
      omega
  simpa using this l []
theorem ddF_rise : ∀ {l : List Int} {p : Option Int}, l.Pairwise (· ≤ ·) → (∀ q, p = some q → ∀ x ∈ l, q ≤ x) → Rise (ddF p l) ∧ (∀ x, x ∈ ddF p l ↔ x ∈ l ∧ p ≠ some x)
  | [], p, _, _ => ⟨List.Pairwise.nil, fun x => by simp [ddF]⟩
  | y :: l, p, h, hp => by
    have h1 := List.pairwise_cons.1 h
    simp only [ddF]
    split
    · rename_i e
      obtain ⟨i1, i2⟩ := ddF_rise (p := p) h1.2 (fun q hq x hx => hp q hq x (List.mem_cons_of_mem _ hx))
      refine ⟨i1, fun x => ?_⟩
      rw [i2, List.mem_cons]
      constructor
      · exact fun ⟨a, b⟩ => ⟨.inr a, b⟩
      · rintro ⟨a | a, b⟩
        · subst a; exact absurd e b
        · exact ⟨a, b⟩
    · rename_i e
      obtain ⟨i1, i2⟩ := ddF_rise (p := some y) h1.2 (fun q hq x hx => by injection hq with hq; subst hq; exact h1.1 x hx)
      have hlt : ∀ x ∈ ddF (some y) l, y < x := fun x hx => by
        obtain ⟨a, b⟩ := (i2 x).1 hx
        have hle := h1.1 x a
        have hne : y ≠ x := fun q => b (by rw [q])
        omega
      refine ⟨List.pairwise_cons.2 ⟨hlt, i1⟩, fun x => ?_⟩
      rw [List.mem_cons, List.mem_cons, i2]
      constructor
      · rintro (rfl | ⟨a, b⟩)
        · exact ⟨.inl rfl, e⟩
        · refine ⟨.inr a, fun q => ?_⟩
          have h3 := hp x q y List.mem_cons_self
          have h4 := h1.1 x a
          exact b (by congr 1; omega)
      · rintro ⟨rfl | a, b⟩
        · exact .inl rfl
        · by_cases q : y = x
          · exact .inl q.symm
          · exact .inr ⟨a, fun e => q (Option.some.inj e)⟩
theorem srtI_mem {l : List Int} {x : Int} : x ∈ srtI l ↔ x ∈ l := (List.mergeSort_perm _ _).mem_iff
theorem srtI_le (l : List Int) : (srtI l).Pairwise (· ≤ ·) := by
  have := List.pairwise_mergeSort (le := fun x y : Int => decide (x ≤ y)) (fun a b c h1 h2 => by simp only [decide_eq_true_eq] at *; omega) (fun a b => by simp only [Bool.or_eq_true, decide_eq_true_eq]; omega) l
  exact List.Pairwise.imp (fun h => by simpa using h) this
theorem dd_set (l : List Int) : dd (srtI l) = l.foldl setI [] := by
  obtain ⟨h1, h2⟩ := ddF_rise (p := none) (srtI_le l) (fun q h => by cases h)
  obtain ⟨h3, h4⟩ := foldSet (l := l) (a := []) List.Pairwise.nil
  refine rise_one h1 h3 fun x => ?_
  rw [h4]
  show x ∈ ddF none (srtI l) ↔ _
  rw [h2, srtI_mem]
  simp
theorem RR.pre {c : Cx} {k b : Nat} : ∀ {xs ys : List (List V)} {o : Nat}, RR c k b o (xs ++ ys) → RR c k b o xs
  | [], _, _, _ => trivial
  | _ :: _, _, _, ⟨h1, h2, h3⟩ => ⟨h1, h2, RR.pre h3⟩
/-- Of a new row that is handed back in part, the part alone is told. -/
theorem LCon.cut {P : Program} {f : FuncId} {args : List V} {k : Nat} {xs ys : List (List V)} (hp : Refss (fun _ => False) xs) (h : LCon P f args [] (.ar 0 0 xs.length) [.arr true k (xs ++ ys)]) : LCon P f args [] (.ar 0 0 xs.length) [.arr true k xs] := by
  refine ⟨h.ok, fun w Zo β us M hu => (h.c w Zo β us M hu).mono ?_⟩
  rintro e w' ⟨v, β', rfl, hF, M', _, hr, hl⟩
  obtain ⟨lc, rfl⟩ : ∃ lc, β' = [lc] := by
    have := M'.len
    match β', this with
    | [lc], _ => exact ⟨lc, rfl⟩
  have hlive : ∀ b, liveAt [.arr true k xs] [lc] b ↔ liveAt [.arr true k (xs ++ ys)] [lc] b := fun b => by rw [live_arr, live_arr]
  obtain ⟨hln, A, rfl, hA⟩ : 0 + xs.length ≤ (xs ++ ys).length ∧ ∃ A, v = .slice A xs.length (lc.cap - 0) ∧ (0 < lc.cap → A = some ⟨lc.b, 0 * k, none⟩) := hr
  have htr : Tr (cx w' Zo [.arr true k (xs ++ ys)] [lc]) (cx w' Zo [.arr true k xs] [lc]) (fun o => o) (fun _ => False) := by
    refine ⟨fun b hf => ⟨⟨hf.1, ?_⟩, rfl⟩, fun _ h => h.elim⟩
    rintro (hz | hz)
    · exact hf.2 (.inl hz)
    · exact hf.2 (.inr ((hlive b).1 hz))
  refine ⟨_, [lc], rfl, hF, ⟨rfl, ?_, ?_, fun b hb hz => M'.out b ((hlive b).1 hb) hz, fun b hz => M'.zlt b hz⟩, rfl, ⟨by omega, A, rfl, hA⟩, fun b hb => hl b ((hlive b).1 hb)⟩
  · intro o ob l' a1 a2
    cases o with
    | zero =>
      simp at a1 a2
      subst a1; subst a2
      obtain ⟨k1, k2, k3, k4⟩ := M'.ok 0 _ lc rfl rfl
      refine ⟨by rw [List.length_append] at k1; omega, k2, k3, k4.imp id ?_⟩
      rintro ⟨us0, e0, fr0, g1, g2, g3, g4, g5⟩
      refine ⟨us0, e0, fr0, g1, g2, g3, ?_, .inl rfl⟩
      have := RR.tr htr k lc.b rfl xs 0 hp (RR.pre g4)
      rwa [renss_pure xs hp] at this
    | succ o => simp at a1
  · intro o o' ob ob' l1 l2 b a1 a2 a3 a4 a5 a6
    cases o with
    | zero =>
      cases o' with
      | zero => rfl
      | succ o' => simp at a2
    | succ o => simp at a1
/-- An id that nobody has. -/
def goneI (g : Gr) (id : Int) : Bool := !Gm.hasId g.parked id && !Gm.hasId g.events id
def prevsL (l : List Ev) : List Int := (l.map (·.prev)).flatten
def missL (g : Gr) : List Int := (prevsL g.parked).filter (goneI g)
/-- Those of the first i parked events, and of the first j of one more. -/
def missA (g : Gr) (i : Nat) : List Int := (prevsL (g.parked.take i)).filter (goneI g)
def missB (g : Gr) (i : Nat) (ps : List Int) (j : Nat) : List Int := missA g i ++ (ps.take j).filter (goneI g)
theorem prevsL_snoc (l : List Ev) (e : Ev) : prevsL (l ++ [e]) = prevsL l ++ e.prev := by simp [prevsL]
theorem missA_next {g : Gr} {i : Nat} {e : Ev} (h : g.parked[i]? = some e) : missA g (i + 1) = missB g i e.prev e.prev.length := by
  unfold missB missA
  rw [List.take_add_one, h, Option.toList_some, prevsL_snoc, List.filter_append, List.take_length]
theorem missB_zero (g : Gr) (i : Nat) (ps : List Int) : missB g i ps 0 = missA g i := by simp [missB]
theorem missB_next {g : Gr} {i : Nat} {ps : List Int} {j : Nat} {x : Int} (h : ps[j]? = some x) : missB g i ps (j + 1) = missB g i ps j ++ (if goneI g x = true then [x] else []) := by
  unfold missB
  rw [filter_s h, List.append_assoc]
theorem missA_all (g : Gr) : missA g g.parked.length = missL g := by unfold missA missL; rw [List.take_length]
theorem right_parked {g : Gr} (hr : Gm.grRight g = true) : g.parked.length ≤ 20 ∧ ∀ e ∈ g.parked, e.prev.length ≤ 4 := by
  simp only [Gm.grRight, Gm.rowR, Bool.and_eq_true, decide_eq_true_eq] at hr
  refine ⟨by have := hr.2.2.1.1; omega, fun e he => ?_⟩
  have := ((Gm.rowFrom_srt hr.2.2.1.2).2 e he).1
  simp only [Gm.evRight, Gm.prevR, Bool.and_eq_true, decide_eq_true_eq] at this
  omega
theorem prevsL_len : ∀ {l : List Ev}, (∀ e ∈ l, e.prev.length ≤ 4) → (prevsL l).length ≤ 4 * l.length
  | [], _ => Nat.zero_le _
  | e :: l, h => by
    have ih := prevsL_len (l := l) (fun x hx => h x (List.mem_cons_of_mem _ hx))
    have := h e List.mem_cons_self
    simp only [prevsL, List.map_cons, List.flatten_cons, List.length_append, List.length_cons] at ih ⊢
    omega
theorem missA_len {g : Gr} (hr : Gm.grRight g = true) (i : Nat) : (missA g i).length ≤ 80 := by
  obtain ⟨h1, h2⟩ := right_parked hr
  have := prevsL_len (l := g.parked.take i) (fun e he => h2 e (List.mem_of_mem_take he))
  have h3 : (g.parked.take i).length ≤ g.parked.length := by rw [List.length_take]; omega
  have h4 := List.length_filter_le (goneI g) (prevsL (g.parked.take i))
  unfold missA
  omega
theorem missB_len {g : Gr} (hr : Gm.grRight g = true) (i : Nat) {ps : List Int} (hp : ps.length ≤ 4) (j : Nat) : (missB g i ps j).length ≤ 84 := by
  have := missA_len hr i
  have h4 := List.length_filter_le (goneI g) (ps.take j)
  have h5 : (ps.take j).length ≤ ps.length := by rw [List.length_take]; omega
  unfold missB
  rw [List.length_append]
  omega
section
variable {P : Program} [Is P]
theorem n_MissingOf (g : Gr) (hg : GrOK g) (hr : Gm.grRight g = true) : LCon P 88 [.agg (encGr g)] [] (.ar 0 0 (dd (srtI (missL g))).length) [.arr true 1 ((padZ (dd (srtI (missL g))) (missL g).length).map encI)] := by
  have hs := grRight_srt hr
  have hp1 := hg.2.1
  refine LCon.of (n := 51) (rs := [.tmp 2]) (Is.fn Try.func88) rfl (Is.call Try.call88) Try.results88 Try.ntmps88 ?_
  simp (maxSteps := 4000000) only [method_specs_simp, seval, encGr]
  refine clY.con (c_GraphRight g hg) (by simp only [method_specs_simp, encGr]) ?_
  simp (maxSteps := 4000000) only [method_specs_simp, seval, encGr, hr]
  refine SW.while (A := Nat) (fun i => ⟨pad 51 [.junk, .ptr 0 0, .nil, .ar 1 0 (missA g i).length, .junk, .junk, .junk, .junk, .junk, .junk, .junk, .junk, .junk, .junk, .junk, .sl 9 (g.parked.map encEv), .int .i64 g.parked.length, .int .i64 i], [.box true (encGr g), .arr true 1 ((missA g i).map encI)], []⟩) (fun i => g.parked.length - i) (fun i => i ≤ g.parked.length) 0 [0, 1] (Nat.zero_le _) ?_ ?_
  · have h0 : missA g 0 = [] := rfl
    rw [h0]
    simp only [mvcgen_simp, method_specs_simp, seval, encGr]
  · intro i hi
    have hal := missA_len hr i
    refine CW.sound ?_
    simp (maxSteps := 4000000) only [method_specs_simp, seval, encGr]
    refine gB_split (fun h => ?_) (fun h => ?_)
    · simp only [decide_eq_true_eq, Int.ofNat_lt] at h
      obtain ⟨e, he⟩ : ∃ e, g.parked[i]? = some e := ⟨_, List.getElem?_eq_getElem h⟩
      have he4 := (right_parked hr).2 e (List.mem_of_getElem? he)
      have w1 : IntKind.i64.wrap ((i : Int) + 1) = ((i + 1 : Nat) : Int) := wadd1 i (by omega)
      simp (maxSteps := 4000000) only [method_specs_simp, seval, encGr, he, encEv]
      refine ⟨by omega, by omega, ?_⟩
      refine SW.while (A := Nat) (fun j => ⟨pad 51 [.junk, .ptr 0 0, .nil, .ar 1 0 (missB g i e.prev j).length, .junk, .junk, .junk, .junk, .junk, .junk, .junk, .junk, .junk, .junk, .junk, .sl 9 (g.parked.map encEv), .int .i64 g.parked.length, .int .i64 i, .junk, .junk, .junk, .junk, .sl 1 (e.prev.map encI), .int .i64 e.prev.length, .int .i64 j], [.box true (encGr g), .arr true 1 ((missB g i e.prev j).map encI)], []⟩) (fun j => e.prev.length - j) (fun j => j ≤ e.prev.length) 0 [0, 1] (Nat.zero_le _) ?_ ?_
      · rw [missB_zero]
        simp only [mvcgen_simp, method_specs_simp, seval, encGr]
      · intro j hj
        have hbl := missB_len hr i he4 j
        have w2 : IntKind.i64.wrap ((j : Int) + 1) = ((j + 1 : Nat) : Int) := wadd1 j (by omega)
        refine CW.sound ?_
        simp (maxSteps := 4000000) only [method_specs_simp, seval, encGr]
        refine gB_split (fun h2 => ?_) (fun h2 => ?_)
        · simp only [decide_eq_true_eq, Int.ofNat_lt] at h2
          obtain ⟨x, hx⟩ : ∃ x, e.prev[j]? = some x := ⟨_, List.getElem?_eq_getElem h2⟩
          have hn := missB_next (g := g) (i := i) hx
          simp (maxSteps := 4000000) only [method_specs_simp, seval, encGr, hx, encI]
          refine ⟨by omega, by omega, ?_⟩
          refine clY.con (c_find g.parked x hp1 hs.2) (by simp only [method_specs_simp, encGr]) ?_
          simp (maxSteps := 4000000) only [method_specs_simp, seval, encGr]
          cases hpk : Gm.hasId g.parked x with
          | true =>
            have hgo : goneI g x = false := by unfold goneI; rw [hpk]; rfl
            rw [hgo, if_neg (by decide), List.append_nil] at hn
            simp (maxSteps := 4000000) only [method_specs_simp, seval, encGr]
            refine Again.mk (j + 1) [0, 1] h2 (Nat.sub_lt_sub_left h2 (Nat.lt_succ_self _)) ?_
            rw [hn]
            simp only [mvcgen_simp, method_specs_simp, seval, encGr, w2]
          | false =>
            simp (maxSteps := 4000000) only [method_specs_simp, seval, encGr]
            refine clY.con (c_has g x hg.1.1 hs.1) (by simp only [method_specs_simp, encGr]) ?_
            simp (maxSteps := 4000000) only [method_specs_simp, seval, encGr]
            cases hev : Gm.hasId g.events x with
            | true =>
              have hgo : goneI g x = false := by unfold goneI; rw [hpk, hev]; rfl
              rw [hgo, if_neg (by decide), List.append_nil] at hn
              simp (maxSteps := 4000000) only [method_specs_simp, seval, encGr]
              refine Again.mk (j + 1) [0, 1] h2 (Nat.sub_lt_sub_left h2 (Nat.lt_succ_self _)) ?_
              rw [hn]
              simp only [mvcgen_simp, method_specs_simp, seval, encGr, w2]
            | false =>
              have hgo : goneI g x = true := by unfold goneI; rw [hpk, hev]; rfl
              rw [hgo, if_pos rfl] at hn
              have e1 : (missB g i e.prev j).map encI ++ [[V.int .i64 x]] = (missB g i e.prev (j + 1)).map encI := by rw [hn, List.map_append]; rfl
              have e2 : (missB g i e.prev j).length + 1 = (missB g i e.prev (j + 1)).length := by rw [hn, List.length_append]; rfl
              simp (maxSteps := 4000000) only [method_specs_simp, seval, encGr]
              refine ⟨by omega, by omega, ?_⟩
              rw [e1, e2]
              refine Again.mk (j + 1) [0, 3] h2 (Nat.sub_lt_sub_left h2 (Nat.lt_succ_self _)) ?_
              simp only [mvcgen_simp, method_specs_simp, seval, encGr, w2]
        · have hj2 : j = e.prev.length := by simp only [decide_eq_false_iff_not, Bool.not_true, Int.ofNat_lt] at h2; omega
          refine Again.mk (i + 1) [0, 1] h (Nat.sub_lt_sub_left h (Nat.lt_succ_self _)) ?_
          rw [missA_next he, hj2]
          simp only [mvcgen_simp, method_specs_simp, seval, encGr, w1]
    · have hi2 : i = g.parked.length := by simp only [decide_eq_false_iff_not, Bool.not_true, Int.ofNat_lt] at h; omega
      subst hi2
      rw [missA_all] at hal ⊢
      refine clY.live [1] [] (n_sorted (missL g) _ rfl (by omega)) ?_ (by simp) ?_
      · simp only [mvcgen_simp, method_specs_simp, seval, encGr]
      simp (maxSteps := 4000000) only [method_specs_simp, seval, encGr]
      have hpl : (padZ (dd (srtI (missL g))) (missL g).length).length = (missL g).length := padZ_len (by have h5 := ddF_len (srtI (missL g)) none; rw [srtI_len] at h5; exact h5)
      refine LResY.mk [1] ?_
      simp only [mvcgen_simp, method_specs_simp, seval, encGr, hpl]
theorem c_sMissingOf (g : Gr) (hg : GrOK g) (hr : Gm.grRight g = true) : Con P 87 [.agg (encGr g)] (.sl 1 (((missL g).foldl setI []).map encI)) := by
  have hp1 := hg.2.1
  have he1 := hg.1.1
  refine Con.ofS (n := 55) (rs := [.tmp 2]) (Is.fn Try.func87) rfl (Is.call Try.call87) Try.results87 Try.ntmps87 (by simp only [method_specs_simp]) ?_
  refine SW.seq (CW.sound ?_)
  simp (maxSteps := 4000000) only [method_specs_simp, seval, encGr]
  refine SW.seq (CW.sound ?_)
  simp (maxSteps := 4000000) only [method_specs_simp, seval, encGr]
  refine SW.freeze [1] ?_
  simp only [mvcgen_simp, method_specs_simp, seval, encGr, convs_r8m, conv_junkm]
  refine SW.seq (CW.sound ?_)
  simp (maxSteps := 4000000) only [method_specs_simp, seval, encGr]
  refine SW.while (A := Nat) (fun i => ⟨pad 55 [.junk, .ptr 0 0, .nil, .sl 1 (((missA g i).foldl setI []).map encI), .int .i64 i], [.box true (encGr g)], []⟩) (fun i => g.parked.length - i) (fun i => i ≤ g.parked.length) 0 [0] (Nat.zero_le _) ?_ ?_
  · have h0 : missA g 0 = [] := rfl
    rw [h0]
    simp only [mvcgen_simp, method_specs_simp, seval, encGr, List.foldl_nil]
  · intro i hi
    have hal := missA_len hr i
    refine CW.sound ?_
    simp (maxSteps := 4000000) only [method_specs_simp, seval, encGr]
    refine gB_split (fun h => ?_) (fun h => ?_)
    · simp only [decide_eq_true_eq, Int.ofNat_lt] at h
      obtain ⟨e, he⟩ : ∃ e, g.parked[i]? = some e := ⟨_, List.getElem?_eq_getElem h⟩
      have he4 := (right_parked hr).2 e (List.mem_of_getElem? he)
      have w1 : IntKind.i64.wrap ((i : Int) + 1) = ((i + 1 : Nat) : Int) := wadd1 i (by omega)
      refine clY.con (c_sGraphRight g hg) (by simp only [method_specs_simp, encGr]) ?_
      simp (maxSteps := 4000000) only [method_specs_simp, seval, encGr, hr]
      refine SW.while (A := Nat) (fun j => ⟨pad 55 [.junk, .ptr 0 0, .nil, .sl 1 (((missB g i e.prev j).foldl setI []).map encI), .int .i64 i, .int .i64 j], [.box true (encGr g)], []⟩) (fun j => e.prev.length - j) (fun j => j ≤ e.prev.length) 0 [0] (Nat.zero_le _) ?_ ?_
      · rw [missB_zero]
        simp only [mvcgen_simp, method_specs_simp, seval, encGr]
      · intro j hj
        have hbl := missB_len hr i he4 j
        have w2 : IntKind.i64.wrap ((j : Int) + 1) = ((j + 1 : Nat) : Int) := wadd1 j (by omega)
        refine CW.sound ?_
        simp (maxSteps := 4000000) only [method_specs_simp, seval, encGr, he, encEv]
        refine ⟨by omega, by omega, ?_⟩
        refine gB_split (fun h2 => ?_) (fun h2 => ?_)
        · simp only [decide_eq_true_eq, Int.ofNat_lt] at h2
          obtain ⟨x, hx⟩ : ∃ x, e.prev[j]? = some x := ⟨_, List.getElem?_eq_getElem h2⟩
          have hn := missB_next (g := g) (i := i) hx
          simp (maxSteps := 4000000) only [method_specs_simp, seval, encGr, hx, encI, he, encEv]
          refine ⟨by omega, by omega, by omega, by omega, ?_⟩
          refine clY.con (c_l03At g.events x (by omega)) (by simp only [method_specs_simp, encGr]) ?_
          simp (maxSteps := 4000000) only [method_specs_simp, seval, encGr]
          rw [atI_neg]
          cases hev : Gm.hasId g.events x with
          | true =>
            have hgo : goneI g x = false := by unfold goneI; rw [hev]; simp
            rw [hgo, if_neg (by decide), List.append_nil] at hn
            simp (maxSteps := 4000000) only [method_specs_simp, seval, encGr]
            refine Again.mk (j + 1) [0] h2 (Nat.sub_lt_sub_left h2 (Nat.lt_succ_self _)) ?_
            rw [hn]
            simp only [mvcgen_simp, method_specs_simp, seval, encGr, w2]
          | false =>
            simp (maxSteps := 4000000) only [method_specs_simp, seval, encGr]
            refine clY.con (c_l03At g.parked x (by omega)) (by simp only [method_specs_simp, encGr]) ?_
            simp (maxSteps := 4000000) only [method_specs_simp, seval, encGr]
            rw [atI_neg]
            cases hpk : Gm.hasId g.parked x with
            | true =>
              have hgo : goneI g x = false := by unfold goneI; rw [hpk]; rfl
              rw [hgo, if_neg (by decide), List.append_nil] at hn
              simp (maxSteps := 4000000) only [method_specs_simp, seval, encGr]
              refine Again.mk (j + 1) [0] h2 (Nat.sub_lt_sub_left h2 (Nat.lt_succ_self _)) ?_
              rw [hn]
              simp only [mvcgen_simp, method_specs_simp, seval, encGr, w2]
            | false =>
              have hgo : goneI g x = true := by unfold goneI; rw [hpk, hev]; rfl
              rw [hgo, if_pos rfl] at hn
              have hfl := foldSet_len (missB g i e.prev j)
              simp (maxSteps := 4000000) only [method_specs_simp, seval, encGr]
              refine clY.con (c_l03Set ((missB g i e.prev j).foldl setI []) x (by omega)) (by simp only [method_specs_simp, encGr]) ?_
              simp (maxSteps := 4000000) only [method_specs_simp, seval, encGr]
              refine Again.mk (j + 1) [0] h2 (Nat.sub_lt_sub_left h2 (Nat.lt_succ_self _)) ?_
              rw [hn, List.foldl_append]
              simp only [mvcgen_simp, method_specs_simp, seval, encGr, w2, List.foldl_cons, List.foldl_nil]
        · have hj2 : j = e.prev.length := by simp only [decide_eq_false_iff_not, Bool.not_true, Int.ofNat_lt] at h2; omega
          refine Again.mk (i + 1) [0] h (Nat.sub_lt_sub_left h (Nat.lt_succ_self _)) ?_
          rw [missA_next he, hj2]
          simp only [mvcgen_simp, method_specs_simp, seval, encGr, w1]
    · have hi2 : i = g.parked.length := by simp only [decide_eq_false_iff_not, Bool.not_true, Int.ofNat_lt] at h; omega
      rw [hi2, missA_all]
      refine CW.sound ?_
      simp (maxSteps := 4000000) only [method_specs_simp, seval, encGr]
theorem c_sMissingOfZ (g : Gr) (hg : GrOK g) (hr : Gm.grRight g = false) : Con P 87 [.agg (encGr g)] (.sl 1 (([] : List Int).map encI)) := by
  refine Con.ofS (n := 55) (rs := [.tmp 2]) (Is.fn Try.func87) rfl (Is.call Try.call87) Try.results87 Try.ntmps87 (by simp only [method_specs_simp]) ?_
  refine SW.seq (CW.sound ?_)
  simp (maxSteps := 4000000) only [method_specs_simp, seval, encGr]
  refine SW.seq (CW.sound ?_)
  simp (maxSteps := 4000000) only [method_specs_simp, seval, encGr]
  refine SW.freeze [1] ?_
  simp only [mvcgen_simp, method_specs_simp, seval, encGr, convs_r8m, conv_junkm]
  refine SW.seq (CW.sound ?_)
  simp (maxSteps := 4000000) only [method_specs_simp, seval, encGr]
  refine SW.while (A := Unit) (fun _ => ⟨pad 55 [.junk, .ptr 0 0, .nil, .sl 1 (([] : List Int).map encI), .int .i64 0], [.box true (encGr g)], []⟩) (fun _ => 0) (fun _ => True) () [0] trivial ?_ ?_
  · simp only [mvcgen_simp, method_specs_simp, seval, encGr]
  · rintro ⟨⟩ _
    refine CW.sound ?_
    simp (maxSteps := 4000000) only [method_specs_simp, seval, encGr]
    refine gB_split (fun h => ?_) (fun h => ?_)
    · refine clY.con (c_sGraphRight g hg) (by simp only [method_specs_simp, encGr]) ?_
      simp (maxSteps := 4000000) only [method_specs_simp, seval, encGr, hr]
      refine CW.sound ?_
      simp (maxSteps := 4000000) only [method_specs_simp, seval, encGr]
    · refine CW.sound ?_
      simp (maxSteps := 4000000) only [method_specs_simp, seval, encGr]
theorem n_MissingOf1 (g : Gr) (hg : GrOK g) (hr : Gm.grRight g = true) : LCon P 88 [.agg (encGr g)] [] (.ar 0 0 ((missL g).foldl setI []).length) [.arr true 1 (((missL g).foldl setI []).map encI)] := by
  have h := n_MissingOf (P := P) g hg hr
  rw [dd_set] at h
  obtain ⟨zs, hz⟩ : ∃ zs, zs = (missL g).foldl setI [] := ⟨_, rfl⟩
  rw [← hz] at h ⊢
  have e1 : (padZ zs (missL g).length).map encI = zs.map encI ++ (List.replicate ((missL g).length - zs.length) 0).map encI := by unfold padZ; rw [List.map_append]
  have e2 : zs.length = (zs.map encI).length := (List.length_map _).symm
  rw [e1, e2] at h
  have := LCon.cut (of_eq_true (encI_refs _ zs)) h
  rwa [← e2] at this
theorem c_MissingOfZ (g : Gr) (hg : GrOK g) (hr : Gm.grRight g = false) : Con P 88 [.agg (encGr g)] .nil := by
  refine Con.of (n := 51) (rs := [.tmp 2]) (Is.fn Try.func88) rfl (Is.call Try.call88) Try.results88 Try.ntmps88 trivial ?_
  simp (maxSteps := 4000000) only [method_specs_simp, seval]
  refine clY.con (c_GraphRight g hg) (by simp only [method_specs_simp]) ?_
  simp (maxSteps := 4000000) only [method_specs_simp, seval, hr]
theorem m_law (g : Gr) (zs : List Int) (hg : GrOK g) (hz : zs.length < 2 ^ 50) (h46 : Con P 87 [.agg (encGr g)] (.sl 1 (zs.map encI))) (h47 : LCon P 88 [.agg (encGr g)] [] (.ar 0 0 zs.length) [.arr true 1 (zs.map encI)]) :
    Con P 11 [.agg (encGr g)] (.bool true) := by
  refine Con.of (n := 69) (rs := [.tmp 2]) (Is.fn Try.func11) rfl (Is.call Try.call11) Try.results11 Try.ntmps11 trivial ?_
  simp (maxSteps := 4000000) only [method_specs_simp, seval]
  refine clY.con (c_szGraph g 1048576 (by decide) (by decide) hg) (by simp only [method_specs_simp]) ?_
  simp (maxSteps := 4000000) only [method_specs_simp, seval]
  refine gB_split (fun _ => trivial) (fun w1 => ?_)
  obtain ⟨q1, q2, q3⟩ := sb_yes (wG_nn g) w1
  refine clY.con (c_toGraph g hg) (by simp only [method_specs_simp]) ?_
  simp (maxSteps := 4000000) only [method_specs_simp, seval]
  refine clY.con (h46) (by simp only [method_specs_simp]) ?_
  simp (maxSteps := 4000000) only [method_specs_simp, seval]
  refine clY.newD 0 (n_toGraph g hg) (dcv_zero _ _) (by simp only [method_specs_simp]) (grV_flat 0 g) (obG_flat g) ?_
  obtain ⟨G, hG⟩ : ∃ G, G = obGb 1 g := ⟨_, rfl⟩
  obtain ⟨N, hN⟩ : ∃ N, N = g.events.length + 1 + (g.parked.length + 1) := ⟨_, rfl⟩
  have hp : Past G N := Past.mk' (by rw [hG, hN, obGb_len])
  have hA1 : ∀ L : List Ob, (G ++ L)[0]? = some (.arr true 9 (rowsEv 2 g.events)) := fun L => by rw [hG]; rfl
  have hA2 : ∀ (a : Ob) (L : List Ob), (a :: (G ++ L))[1 + (g.events.length + 1)]? = some (.arr true 9 (rowsEv (1 + (g.events.length + 1) + 1) g.parked)) := fun a L => by
    rw [hG]; exact obGb_one g a L
  simp (maxSteps := 4000000) only [method_specs_simp, seval, hp.len, hp.g0, hp.g, hp.b0, hp.b, hp.v0, hp.v, hp.a0, hp.a, hp.w0, hp.w, hp.s0, hp.s, List.append_assoc, List.cons_append, List.nil_append, obG_ren, grV, ← hG, hA1, hA2]
  have hL : ∀ (a : Ob) (L : List Ob), LiesG (a :: (G ++ L)) 1 g := fun a L => LiesG.mk (A := [a]) rfl (by rw [hG]; rfl)
  refine clY.newD 3 h47 ?_ ⟨encGr_ref1 _ g, trivial⟩ trivial (flat1 ⟨rfl, flat_ints _⟩) ?_
  · show [dcv 3 _ (.agg (grV 1 g))] = _
    rw [(hL _ _).dcv]
  simp (maxSteps := 4000000) only [method_specs_simp, seval, hp.len, hp.g0, hp.g, hp.b0, hp.b, hp.v0, hp.v, hp.a0, hp.a, hp.w0, hp.w, hp.s0, hp.s, List.append_assoc, List.cons_append, List.nil_append]
  refine clY.conD 1 (c_eqInt64S zs (by omega)) ?_ ⟨of_eq_true (encI_refs _ zs), of_eq_true (encI_refs _ zs), trivial⟩ trivial ?_
  · show [dcv 1 _ (.ar (N + 2) 0 zs.length), dcv 1 _ (.sl 1 (zs.map encI))] = _
    rw [dcv_ints]
    rfl
    simp (maxSteps := 4000000) only [method_specs_simp, seval, hp.len, hp.g0, hp.g, hp.b0, hp.b, hp.v0, hp.v, hp.a0, hp.a, hp.w0, hp.w, hp.s0, hp.s, List.append_assoc, List.cons_append, List.nil_append]
  simp (maxSteps := 4000000) only [method_specs_simp, seval, hp.len, hp.g0, hp.g, hp.b0, hp.b, hp.v0, hp.v, hp.a0, hp.a, hp.w0, hp.w, hp.s0, hp.s, List.append_assoc, List.cons_append, List.nil_append]
  refine ⟨by kernel_rfl, ?_⟩
  refine clY.con (c_toGraph g hg) (by simp only [method_specs_simp, hp.len, hp.g0, hp.g, hp.b0, hp.b, hp.v0, hp.v, hp.a0, hp.a, hp.w0, hp.w, hp.s0, hp.s, List.append_assoc, List.cons_append, List.nil_append]) ?_
  simp (maxSteps := 4000000) only [method_specs_simp, seval, hp.len, hp.g0, hp.g, hp.b0, hp.b, hp.v0, hp.v, hp.a0, hp.a, hp.w0, hp.w, hp.s0, hp.s, List.append_assoc, List.cons_append, List.nil_append]
  refine clY.conD 3 (c_eqGraph g hg) ?_ ⟨encGr_ref1 _ g, encGr_ref1 _ g, trivial⟩ trivial ?_
  · show [dcv 3 _ (.agg (grV 1 g)), dcv 3 _ (.agg (encGr g))] = _
    rw [(hL _ _).dcv, dcv_encG]
  simp (maxSteps := 4000000) only [method_specs_simp, seval, hp.len, hp.g0, hp.g, hp.b0, hp.b, hp.v0, hp.v, hp.a0, hp.a, hp.w0, hp.w, hp.s0, hp.s, List.append_assoc, List.cons_append, List.nil_append, Bool.not_true]
  have b1 := wM_le g.events
  have b2 := wM_le g.parked
  have b3 := wM_nn g.events
  have b4 := wM_nn g.parked
  have hwG : wG g = (g.events.length + wEs g.events) + (g.parked.length + wEs g.parked) := rfl
  have hk : decide (1 + (wM g.events + wM g.parked) < 0) = false := decide_eq_false (by omega)
  refine clY.segG1 hG (n_markGraph g 1 (by decide) (by decide) hg (by omega)) (mGr_len 1 g) trivial ⟨trivial, trivial⟩ (fun m => by simp only [convs, conv]) ?_
  obtain ⟨G2, hG2⟩ : ∃ G2, G2 = obGb 1 (mGr 1 g) := ⟨_, rfl⟩
  have hp2 : Past G2 N := Past.mk' (by rw [hG2, hN, obGb_len]; simp only [mGr, mEvs_len])
  rw [← hG2]
  have hmi := mInts_len zs.length 1
  have hk2 : decide (1 + (zs.length : Int) < 0) = false := decide_eq_false (by omega)
  simp (maxSteps := 4000000) only [method_specs_simp, seval, hk, hk2, bne_self_eq_false, Bool.not_true, hp2.len, hp2.g0, hp2.g, hp2.b0, hp2.b, hp2.v0, hp2.v, hp2.a0, hp2.a, hp2.w0, hp2.w, hp2.s0, hp2.s, List.append_assoc, List.cons_append, List.nil_append]
  refine clY.conD 1 (c_eqInt64S zs (by omega)) ?_ ⟨of_eq_true (encI_refs _ zs), of_eq_true (encI_refs _ zs), trivial⟩ trivial ?_
  · show [dcv 1 _ (.ar (N + 2) 0 zs.length), dcv 1 _ (.sl 1 (zs.map encI))] = _
    rw [dcv_ints]
    rfl
    simp (maxSteps := 4000000) only [method_specs_simp, seval, hk, hk2, bne_self_eq_false, Bool.not_true, hp2.len, hp2.g0, hp2.g, hp2.b0, hp2.b, hp2.v0, hp2.v, hp2.a0, hp2.a, hp2.w0, hp2.w, hp2.s0, hp2.s, List.append_assoc, List.cons_append, List.nil_append]
  simp (maxSteps := 4000000) only [method_specs_simp, seval, hk, hk2, bne_self_eq_false, Bool.not_true, hp2.len, hp2.g0, hp2.g, hp2.b0, hp2.b, hp2.v0, hp2.v, hp2.a0, hp2.a, hp2.w0, hp2.w, hp2.s0, hp2.s, List.append_assoc, List.cons_append, List.nil_append]
  refine clY.at1 (q := N + 2) (n_markInt64S zs 1 (by decide) (by decide) (by omega)) ?_ (pure_ints _ _) (pure_ints _ _) trivial ⟨trivial, trivial⟩ (by simp only [convs, conv]) ?_
  · simp (maxSteps := 4000000) only [method_specs_simp, seval, hk, hk2, bne_self_eq_false, Bool.not_true, hp2.len, hp2.g0, hp2.g, hp2.b0, hp2.b, hp2.v0, hp2.v, hp2.a0, hp2.a, hp2.w0, hp2.w, hp2.s0, hp2.s, List.append_assoc, List.cons_append, List.nil_append]
  simp (maxSteps := 4000000) only [method_specs_simp, seval, hk, hk2, bne_self_eq_false, Bool.not_true, hp2.len, hp2.g0, hp2.g, hp2.b0, hp2.b, hp2.v0, hp2.v, hp2.a0, hp2.a, hp2.w0, hp2.w, hp2.s0, hp2.s, List.append_assoc, List.cons_append, List.nil_append]
  refine clY.conD 1 (c_heldInt64S 1 zs.length (by decide) (by decide) (by omega)) ?_ ⟨of_eq_true (encI_refs _ _), trivial, trivial⟩ trivial ?_
  · show [dcv 1 _ (.ar (N + 2) 0 zs.length), dcv 1 _ (.int .i64 1)] = _
    rw [dcv_flat (zs := (mInts 1 zs.length).map encI) (lv := true) (sz := 1)]
    rfl
    simp (maxSteps := 4000000) only [method_specs_simp, seval, hk, hk2, bne_self_eq_false, Bool.not_true, hp2.len, hp2.g0, hp2.g, hp2.b0, hp2.b, hp2.v0, hp2.v, hp2.a0, hp2.a, hp2.w0, hp2.w, hp2.s0, hp2.s, List.append_assoc, List.cons_append, List.nil_append]
    rw [List.length_map, hmi]
  simp (maxSteps := 4000000) only [method_specs_simp, seval, hk, hk2, bne_self_eq_false, Bool.not_true, hp2.len, hp2.g0, hp2.g, hp2.b0, hp2.b, hp2.v0, hp2.v, hp2.a0, hp2.a, hp2.w0, hp2.w, hp2.s0, hp2.s, List.append_assoc, List.cons_append, List.nil_append]
  refine clY.con (c_toGraph g hg) (by simp only [method_specs_simp, hk, hk2, bne_self_eq_false, Bool.not_true, hp2.len, hp2.g0, hp2.g, hp2.b0, hp2.b, hp2.v0, hp2.v, hp2.a0, hp2.a, hp2.w0, hp2.w, hp2.s0, hp2.s, List.append_assoc, List.cons_append, List.nil_append]) ?_
  simp (maxSteps := 4000000) only [method_specs_simp, seval, hk, hk2, bne_self_eq_false, Bool.not_true, hp2.len, hp2.g0, hp2.g, hp2.b0, hp2.b, hp2.v0, hp2.v, hp2.a0, hp2.a, hp2.w0, hp2.w, hp2.s0, hp2.s, List.append_assoc, List.cons_append, List.nil_append]
  refine clY.newD 0 h47 (dcv_zero _ _) ⟨encGr_ref1 _ g, trivial⟩ trivial (flat1 ⟨rfl, flat_ints _⟩) ?_
  simp (maxSteps := 4000000) only [method_specs_simp, seval, hk, hk2, bne_self_eq_false, Bool.not_true, hp2.len, hp2.g0, hp2.g, hp2.b0, hp2.b, hp2.v0, hp2.v, hp2.a0, hp2.a, hp2.w0, hp2.w, hp2.s0, hp2.s, List.append_assoc, List.cons_append, List.nil_append]
  refine clY.conD 1 (c_eqInt64S zs (by omega)) ?_ ⟨of_eq_true (encI_refs _ zs), of_eq_true (encI_refs _ zs), trivial⟩ trivial ?_
  · show [dcv 1 _ (.ar (N + 3) 0 zs.length), dcv 1 _ (.sl 1 (zs.map encI))] = _
    rw [dcv_ints]
    rfl
    simp (maxSteps := 4000000) only [method_specs_simp, seval, hk, hk2, bne_self_eq_false, Bool.not_true, hp2.len, hp2.g0, hp2.g, hp2.b0, hp2.b, hp2.v0, hp2.v, hp2.a0, hp2.a, hp2.w0, hp2.w, hp2.s0, hp2.s, List.append_assoc, List.cons_append, List.nil_append]
  simp (maxSteps := 4000000) only [method_specs_simp, seval, hk, hk2, bne_self_eq_false, Bool.not_true, hp2.len, hp2.g0, hp2.g, hp2.b0, hp2.b, hp2.v0, hp2.v, hp2.a0, hp2.a, hp2.w0, hp2.w, hp2.s0, hp2.s, List.append_assoc, List.cons_append, List.nil_append]
  refine clY.conD 1 (c_heldInt64S 1 zs.length (by decide) (by decide) (by omega)) ?_ ⟨of_eq_true (encI_refs _ _), trivial, trivial⟩ trivial ?_
  · show [dcv 1 _ (.ar (N + 2) 0 zs.length), dcv 1 _ (.int .i64 1)] = _
    rw [dcv_flat (zs := (mInts 1 zs.length).map encI) (lv := true) (sz := 1)]
    rfl
    simp (maxSteps := 4000000) only [method_specs_simp, seval, hk, hk2, bne_self_eq_false, Bool.not_true, hp2.len, hp2.g0, hp2.g, hp2.b0, hp2.b, hp2.v0, hp2.v, hp2.a0, hp2.a, hp2.w0, hp2.w, hp2.s0, hp2.s, List.append_assoc, List.cons_append, List.nil_append]
    rw [List.length_map, hmi]
  simp (maxSteps := 4000000) only [method_specs_simp, seval, hk, hk2, bne_self_eq_false, Bool.not_true, hp2.len, hp2.g0, hp2.g, hp2.b0, hp2.b, hp2.v0, hp2.v, hp2.a0, hp2.a, hp2.w0, hp2.w, hp2.s0, hp2.s, List.append_assoc, List.cons_append, List.nil_append]
theorem m_lawZ (g : Gr) (hg : GrOK g) (h46 : Con P 87 [.agg (encGr g)] (.sl 1 (([] : List Int).map encI))) (h47 : Con P 88 [.agg (encGr g)] .nil) :
    Con P 11 [.agg (encGr g)] (.bool true) := by
  refine Con.of (n := 69) (rs := [.tmp 2]) (Is.fn Try.func11) rfl (Is.call Try.call11) Try.results11 Try.ntmps11 trivial ?_
  simp (maxSteps := 4000000) only [method_specs_simp, seval]
  refine clY.con (c_szGraph g 1048576 (by decide) (by decide) hg) (by simp only [method_specs_simp]) ?_
  simp (maxSteps := 4000000) only [method_specs_simp, seval]
  refine gB_split (fun _ => trivial) (fun w1 => ?_)
  obtain ⟨q1, q2, q3⟩ := sb_yes (wG_nn g) w1
  refine clY.con (c_toGraph g hg) (by simp only [method_specs_simp]) ?_
  simp (maxSteps := 4000000) only [method_specs_simp, seval]
  refine clY.con (h46) (by simp only [method_specs_simp]) ?_
  simp (maxSteps := 4000000) only [method_specs_simp, seval]
  refine clY.newD 0 (n_toGraph g hg) (dcv_zero _ _) (by simp only [method_specs_simp]) (grV_flat 0 g) (obG_flat g) ?_
  obtain ⟨G, hG⟩ : ∃ G, G = obGb 1 g := ⟨_, rfl⟩
  obtain ⟨N, hN⟩ : ∃ N, N = g.events.length + 1 + (g.parked.length + 1) := ⟨_, rfl⟩
  have hp : Past G N := Past.mk' (by rw [hG, hN, obGb_len])
  have hA1 : ∀ L : List Ob, (G ++ L)[0]? = some (.arr true 9 (rowsEv 2 g.events)) := fun L => by rw [hG]; rfl
  have hA2 : ∀ (a : Ob) (L : List Ob), (a :: (G ++ L))[1 + (g.events.length + 1)]? = some (.arr true 9 (rowsEv (1 + (g.events.length + 1) + 1) g.parked)) := fun a L => by
    rw [hG]; exact obGb_one g a L
  simp (maxSteps := 4000000) only [method_specs_simp, seval, hp.len, hp.g0, hp.g, hp.b0, hp.b, hp.v0, hp.v, hp.a0, hp.a, hp.w0, hp.w, hp.s0, hp.s, List.append_assoc, List.cons_append, List.nil_append, obG_ren, grV, ← hG, hA1, hA2]
  have hL : ∀ (a : Ob) (L : List Ob), LiesG (a :: (G ++ L)) 1 g := fun a L => LiesG.mk (A := [a]) rfl (by rw [hG]; rfl)
  refine clY.conD 3 h47 ?_ ⟨encGr_ref1 _ g, trivial⟩ trivial ?_
  · show [dcv 3 _ (.agg (grV 1 g))] = _
    rw [(hL _ _).dcv]
  simp (maxSteps := 4000000) only [method_specs_simp, seval, hp.len, hp.g0, hp.g, hp.b0, hp.b, hp.v0, hp.v, hp.a0, hp.a, hp.w0, hp.w, hp.s0, hp.s, List.append_assoc, List.cons_append, List.nil_append]
  refine clY.con (c_eqNil) (by simp only [method_specs_simp, hp.len, hp.g0, hp.g, hp.b0, hp.b, hp.v0, hp.v, hp.a0, hp.a, hp.w0, hp.w, hp.s0, hp.s, List.append_assoc, List.cons_append, List.nil_append]) ?_
  simp (maxSteps := 4000000) only [method_specs_simp, seval, hp.len, hp.g0, hp.g, hp.b0, hp.b, hp.v0, hp.v, hp.a0, hp.a, hp.w0, hp.w, hp.s0, hp.s, List.append_assoc, List.cons_append, List.nil_append]
  refine ⟨by kernel_rfl, ?_⟩
  refine clY.con (c_toGraph g hg) (by simp only [method_specs_simp, hp.len, hp.g0, hp.g, hp.b0, hp.b, hp.v0, hp.v, hp.a0, hp.a, hp.w0, hp.w, hp.s0, hp.s, List.append_assoc, List.cons_append, List.nil_append]) ?_
  simp (maxSteps := 4000000) only [method_specs_simp, seval, hp.len, hp.g0, hp.g, hp.b0, hp.b, hp.v0, hp.v, hp.a0, hp.a, hp.w0, hp.w, hp.s0, hp.s, List.append_assoc, List.cons_append, List.nil_append]
  refine clY.conD 3 (c_eqGraph g hg) ?_ ⟨encGr_ref1 _ g, encGr_ref1 _ g, trivial⟩ trivial ?_
  · show [dcv 3 _ (.agg (grV 1 g)), dcv 3 _ (.agg (encGr g))] = _
    rw [(hL _ _).dcv, dcv_encG]
  simp (maxSteps := 4000000) only [method_specs_simp, seval, hp.len, hp.g0, hp.g, hp.b0, hp.b, hp.v0, hp.v, hp.a0, hp.a, hp.w0, hp.w, hp.s0, hp.s, List.append_assoc, List.cons_append, List.nil_append, Bool.not_true]
  have b1 := wM_le g.events
  have b2 := wM_le g.parked
  have b3 := wM_nn g.events
  have b4 := wM_nn g.parked
  have hwG : wG g = (g.events.length + wEs g.events) + (g.parked.length + wEs g.parked) := rfl
  have hk : decide (1 + (wM g.events + wM g.parked) < 0) = false := decide_eq_false (by omega)
  refine clY.segG1 hG (n_markGraph g 1 (by decide) (by decide) hg (by omega)) (mGr_len 1 g) trivial ⟨trivial, trivial⟩ (fun m => by simp only [convs, conv]) ?_
  obtain ⟨G2, hG2⟩ : ∃ G2, G2 = obGb 1 (mGr 1 g) := ⟨_, rfl⟩
  have hp2 : Past G2 N := Past.mk' (by rw [hG2, hN, obGb_len]; simp only [mGr, mEvs_len])
  rw [← hG2]
  simp (maxSteps := 4000000) only [method_specs_simp, seval, hk, bne_self_eq_false, Bool.not_true, hp2.len, hp2.g0, hp2.g, hp2.b0, hp2.b, hp2.v0, hp2.v, hp2.a0, hp2.a, hp2.w0, hp2.w, hp2.s0, hp2.s, List.append_assoc, List.cons_append, List.nil_append]
  refine clY.con (c_eqNil) (by simp only [method_specs_simp, hk, bne_self_eq_false, Bool.not_true, hp2.len, hp2.g0, hp2.g, hp2.b0, hp2.b, hp2.v0, hp2.v, hp2.a0, hp2.a, hp2.w0, hp2.w, hp2.s0, hp2.s, List.append_assoc, List.cons_append, List.nil_append]) ?_
  simp (maxSteps := 4000000) only [method_specs_simp, seval, hk, bne_self_eq_false, Bool.not_true, hp2.len, hp2.g0, hp2.g, hp2.b0, hp2.b, hp2.v0, hp2.v, hp2.a0, hp2.a, hp2.w0, hp2.w, hp2.s0, hp2.s, List.append_assoc, List.cons_append, List.nil_append]
  refine clY.con (c_markNil 1) (by simp only [method_specs_simp, hk, bne_self_eq_false, Bool.not_true, hp2.len, hp2.g0, hp2.g, hp2.b0, hp2.b, hp2.v0, hp2.v, hp2.a0, hp2.a, hp2.w0, hp2.w, hp2.s0, hp2.s, List.append_assoc, List.cons_append, List.nil_append]) ?_
  simp (maxSteps := 4000000) only [method_specs_simp, seval, hk, bne_self_eq_false, Bool.not_true, hp2.len, hp2.g0, hp2.g, hp2.b0, hp2.b, hp2.v0, hp2.v, hp2.a0, hp2.a, hp2.w0, hp2.w, hp2.s0, hp2.s, List.append_assoc, List.cons_append, List.nil_append]
  refine clY.con (c_heldNil 1 (by decide) (by decide)) (by simp only [method_specs_simp, hk, bne_self_eq_false, Bool.not_true, hp2.len, hp2.g0, hp2.g, hp2.b0, hp2.b, hp2.v0, hp2.v, hp2.a0, hp2.a, hp2.w0, hp2.w, hp2.s0, hp2.s, List.append_assoc, List.cons_append, List.nil_append]) ?_
  simp (maxSteps := 4000000) only [method_specs_simp, seval, hk, bne_self_eq_false, Bool.not_true, hp2.len, hp2.g0, hp2.g, hp2.b0, hp2.b, hp2.v0, hp2.v, hp2.a0, hp2.a, hp2.w0, hp2.w, hp2.s0, hp2.s, List.append_assoc, List.cons_append, List.nil_append]
  refine clY.con (c_toGraph g hg) (by simp only [method_specs_simp, hk, bne_self_eq_false, Bool.not_true, hp2.len, hp2.g0, hp2.g, hp2.b0, hp2.b, hp2.v0, hp2.v, hp2.a0, hp2.a, hp2.w0, hp2.w, hp2.s0, hp2.s, List.append_assoc, List.cons_append, List.nil_append]) ?_
  simp (maxSteps := 4000000) only [method_specs_simp, seval, hk, bne_self_eq_false, Bool.not_true, hp2.len, hp2.g0, hp2.g, hp2.b0, hp2.b, hp2.v0, hp2.v, hp2.a0, hp2.a, hp2.w0, hp2.w, hp2.s0, hp2.s, List.append_assoc, List.cons_append, List.nil_append]
  refine clY.con (h47) (by simp only [method_specs_simp, hk, bne_self_eq_false, Bool.not_true, hp2.len, hp2.g0, hp2.g, hp2.b0, hp2.b, hp2.v0, hp2.v, hp2.a0, hp2.a, hp2.w0, hp2.w, hp2.s0, hp2.s, List.append_assoc, List.cons_append, List.nil_append]) ?_
  simp (maxSteps := 4000000) only [method_specs_simp, seval, hk, bne_self_eq_false, Bool.not_true, hp2.len, hp2.g0, hp2.g, hp2.b0, hp2.b, hp2.v0, hp2.v, hp2.a0, hp2.a, hp2.w0, hp2.w, hp2.s0, hp2.s, List.append_assoc, List.cons_append, List.nil_append]
  refine clY.con (c_eqNil) (by simp only [method_specs_simp, hk, bne_self_eq_false, Bool.not_true, hp2.len, hp2.g0, hp2.g, hp2.b0, hp2.b, hp2.v0, hp2.v, hp2.a0, hp2.a, hp2.w0, hp2.w, hp2.s0, hp2.s, List.append_assoc, List.cons_append, List.nil_append]) ?_
  simp (maxSteps := 4000000) only [method_specs_simp, seval, hk, bne_self_eq_false, Bool.not_true, hp2.len, hp2.g0, hp2.g, hp2.b0, hp2.b, hp2.v0, hp2.v, hp2.a0, hp2.a, hp2.w0, hp2.w, hp2.s0, hp2.s, List.append_assoc, List.cons_append, List.nil_append]
  refine clY.con (c_heldNil 1 (by decide) (by decide)) (by simp only [method_specs_simp, hk, bne_self_eq_false, Bool.not_true, hp2.len, hp2.g0, hp2.g, hp2.b0, hp2.b, hp2.v0, hp2.v, hp2.a0, hp2.a, hp2.w0, hp2.w, hp2.s0, hp2.s, List.append_assoc, List.cons_append, List.nil_append]) ?_
  simp (maxSteps := 4000000) only [method_specs_simp, seval, hk, bne_self_eq_false, Bool.not_true, hp2.len, hp2.g0, hp2.g, hp2.b0, hp2.b, hp2.v0, hp2.v, hp2.a0, hp2.a, hp2.w0, hp2.w, hp2.s0, hp2.s, List.append_assoc, List.cons_append, List.nil_append]
theorem c_FnExactMissingOf (g : Gr) (hg : GrOK g) : Con P 11 [.agg (encGr g)] (.bool true) := by
  cases hr : Gm.grRight g with
  | true =>
    have h1 := foldSet_len (missL g)
    have h2 := missA_len hr g.parked.length
    rw [missA_all] at h2
    exact m_law g _ hg (by omega) (c_sMissingOf g hg hr) (n_MissingOf1 g hg hr)
  | false => exact m_lawZ g hg (c_sMissingOfZ g hg hr) (c_MissingOfZ g hg hr)
end
end Go.Proofs.Ytkcllejnmpnjfaa
