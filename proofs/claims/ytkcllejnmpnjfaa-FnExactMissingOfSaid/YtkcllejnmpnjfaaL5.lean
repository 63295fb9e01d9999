/- Sorting places by depth: one order, one sorted list; changing places. No program in sight. Sorting in place by blocks: what stands after each stage. No program in sight. -/
import Derived.Test.YtkcllejnmpnjfaaL4
section
set_option linter.unusedVariables false
set_option linter.unusedSimpArgs false
namespace Go.Gm
/-- By depth, then by place. -/
def ltD (d : Int → Int) (x y : Int) : Bool := decide (d x < d y) || (decide (d x = d y) && decide (x < y))
def LtD (d : Int → Int) (x y : Int) : Prop := ltD d x y = true
theorem ltD_iff {d : Int → Int} {x y : Int} : LtD d x y ↔ d x < d y ∨ (d x = d y ∧ x < y) := by simp [LtD, ltD]
theorem ltD_str (d : Int → Int) : Str (LtD d) := ⟨fun x h => by rw [ltD_iff] at h; omega, fun x y z h1 h2 => by rw [ltD_iff] at *; omega⟩
theorem ltD_tot {d : Int → Int} {x y : Int} (h : x ≠ y) (hn : ¬ LtD d x y) : LtD d y x := by rw [ltD_iff] at *; omega
def insD (d : Int → Int) (x : Int) : List Int → List Int
  | [] => [x]
  | y :: l => if ltD d x y = true then x :: y :: l else y :: insD d x l
def srtD (d : Int → Int) : List Int → List Int
  | [] => []
  | x :: l => insD d x (srtD d l)
theorem insD_perm (d : Int → Int) (x : Int) : ∀ l, (insD d x l).Perm (x :: l)
  | [] => List.Perm.refl _
  | y :: l => by
    unfold insD
    split
    · exact List.Perm.refl _
    · exact ((insD_perm d x l).cons y).trans (List.Perm.swap x y l)
theorem srtD_perm (d : Int → Int) : ∀ l, (srtD d l).Perm l
  | [] => List.Perm.refl _
  | x :: l => (insD_perm d x _).trans ((srtD_perm d l).cons x)
theorem insD_sorted {d : Int → Int} {x : Int} : ∀ {l : List Int}, l.Pairwise (LtD d) → x ∉ l → (insD d x l).Pairwise (LtD d)
  | [], _, _ => List.pairwise_singleton _ _
  | y :: l, h, hx => by
    have h1 := List.pairwise_cons.1 h
    unfold insD
    split
    · rename_i hlt
      refine List.pairwise_cons.2 ⟨fun z hz => ?_, h⟩
      rcases List.mem_cons.1 hz with rfl | hz
      · exact hlt
      · exact (ltD_str d).tr _ _ _ hlt (h1.1 z hz)
    · rename_i hlt
      refine List.pairwise_cons.2 ⟨fun z hz => ?_, insD_sorted h1.2 fun hm => hx (List.mem_cons_of_mem _ hm)⟩
      rcases List.mem_cons.1 ((insD_perm d x l).subset hz) with rfl | hz
      · exact ltD_tot (fun e => hx (e ▸ List.mem_cons_self)) hlt
      · exact h1.1 z hz
/-- What stands apart: places of one depth, in order. -/
def StD (d : Int → Int) (l : List Int) : Prop := l.Pairwise fun x y => d x = d y → x < y
theorem StD.nodup {d : Int → Int} {l : List Int} (h : StD d l) : l.Nodup := List.Pairwise.imp (fun {x y} h e => by subst e; exact absurd (h rfl) (by omega)) h
theorem srtD_sorted {d : Int → Int} : ∀ {l : List Int}, l.Nodup → (srtD d l).Pairwise (LtD d)
  | [], _ => List.Pairwise.nil
  | x :: l, h => by
    have h1 := List.nodup_cons.1 h
    exact insD_sorted (srtD_sorted h1.2) fun hm => h1.1 ((srtD_perm d l).subset hm)
theorem srtD_of {d : Int → Int} {l l' : List Int} (hp : l'.Perm l) (hs : l'.Pairwise (LtD d)) : l' = srtD d l := by
  have hn : l'.Nodup := List.Pairwise.imp (fun {x y} h e => by subst e; exact (ltD_str d).irr _ h) hs
  exact sorted_one (ltD_str d) (hp.trans (srtD_perm d l).symm) hs (srtD_sorted (hp.nodup hn))
theorem srtD_same {d : Int → Int} {l l' : List Int} (h : l.Nodup) (hp : l'.Perm l) : srtD d l' = srtD d l := srtD_of ((srtD_perm d l').trans hp) (srtD_sorted (hp.symm.nodup h))
theorem srtD_id {d : Int → Int} {l : List Int} (hs : l.Pairwise (LtD d)) : srtD d l = l := (srtD_of (List.Perm.refl _) hs).symm
theorem srtD_len (d : Int → Int) (l : List Int) : (srtD d l).length = l.length := (srtD_perm d l).length_eq
/-- The element further behind, held against the one ahead. -/
theorem behind {d : Int → Int} {x y : Int} (h : d x = d y → x < y) : decide (d y < d x) = ltD d y x := by
  unfold ltD
  by_cases h1 : d y < d x
  · simp [h1]
  · by_cases h2 : d y = d x
    · have := h h2.symm
      simp [h1, h2]; omega
    · simp [h1, h2]
theorem get_mid {α : Type} (P : List α) (x : α) (Q : List α) : (P ++ x :: Q)[P.length]? = some x := by simp
theorem get_mid2 {α : Type} (P Q R : List α) (x y : α) : (P ++ x :: (Q ++ y :: R))[P.length + 1 + Q.length]? = some y := by
  rw [List.getElem?_append_right (by omega), show P.length + 1 + Q.length - P.length = Q.length + 1 by omega, List.getElem?_cons_succ]
  simp
theorem set_mid {α : Type} (P : List α) (x z : α) (Q : List α) : (P ++ x :: Q).set P.length z = P ++ z :: Q := by simp
theorem set_mid2 {α : Type} (P Q R : List α) (x y z : α) : (P ++ x :: (Q ++ y :: R)).set (P.length + 1 + Q.length) z = P ++ x :: (Q ++ z :: R) := by
  rw [List.set_append_right _ _ (by omega), show P.length + 1 + Q.length - P.length = Q.length + 1 by omega, List.set_cons_succ, set_mid]
/-- Two elements change places. -/
theorem swp {α : Type} (P Q R : List α) (x y : α) : ((P ++ x :: (Q ++ y :: R)).set P.length y).set (P.length + 1 + Q.length) x = P ++ y :: (Q ++ x :: R) := by rw [set_mid, set_mid2]
theorem swp' {α : Type} (P Q R : List α) (x y : α) : ((P ++ x :: (Q ++ y :: R)).set (P.length + 1 + Q.length) x).set P.length y = P ++ y :: (Q ++ x :: R) := by rw [set_mid2, set_mid]
theorem pw_get {α : Type} {T : α → α → Prop} {l : List α} (h : l.Pairwise T) {i j : Nat} {x y : α} (hij : i < j) (hx : l[i]? = some x) (hy : l[j]? = some y) : T x y := by
  obtain ⟨hi, rfl⟩ := List.getElem?_eq_some_iff.1 hx
  obtain ⟨hj, rfl⟩ := List.getElem?_eq_some_iff.1 hy
  exact List.pairwise_iff_getElem.1 h i j hi hj hij
theorem mem_take_get {α : Type} {l : List α} {s : Nat} {x : α} (h : x ∈ l.take s) : ∃ i, i < s ∧ l[i]? = some x := by
  obtain ⟨i, hi⟩ := List.mem_iff_getElem?.1 h
  rw [List.getElem?_take] at hi
  split at hi
  · exact ⟨i, by assumption, hi⟩
  · cases hi
theorem mem_drop_get {α : Type} {l : List α} {s : Nat} {x : α} (h : x ∈ l.drop s) : ∃ i, s ≤ i ∧ l[i]? = some x := by
  obtain ⟨i, hi⟩ := List.mem_iff_getElem?.1 h
  rw [List.getElem?_drop] at hi
  exact ⟨s + i, by omega, hi⟩
/-- Where two sorted parts are cut so that what lies at the cut fits, all fits. -/
theorem cut_fits {d : Int → Int} {L R : List Int} (hL : L.Pairwise (LtD d)) (hR : R.Pairwise (LtD d)) {s t : Nat}
    (h : s = 0 ∨ t = R.length ∨ ∃ x y, L[s - 1]? = some x ∧ R[t]? = some y ∧ LtD d x y) : ∀ x ∈ L.take s, ∀ y ∈ R.drop t, LtD d x y := by
  intro x hx y hy
  replace hx := mem_take_get hx
  replace hy := mem_drop_get hy
  obtain ⟨i, hi, hx⟩ := hx
  obtain ⟨j, hj, hy⟩ := hy
  rcases h with rfl | rfl | ⟨x0, y0, h1, h2, h3⟩
  · omega
  · obtain ⟨hlt, _⟩ := List.getElem?_eq_some_iff.1 hy
    omega
  · have a1 : x = x0 ∨ LtD d x x0 := by
      by_cases e : i = s - 1
      · left; rw [e, h1] at hx; injection hx with hx; exact hx.symm
      · right; exact pw_get hL (by omega) hx h1
    have a2 : y0 = y ∨ LtD d y0 y := by
      by_cases e : t = j
      · left; rw [← e, h2] at hy; injection hy with hy
      · right; exact pw_get hR (by omega) h2 hy
    have h4 : LtD d x y0 := a1.elim (fun e => e ▸ h3) fun a1 => (ltD_str d).tr _ _ _ a1 h3
    rcases a2 with rfl | a2
    · exact h4
    · exact (ltD_str d).tr _ _ _ h4 a2
theorem cut_one {d : Int → Int} {R : List Int} (hR : R.Pairwise (LtD d)) {x : Int} {t : Nat} (h1 : t = 0 ∨ ∃ y, R[t - 1]? = some y ∧ LtD d y x) (h2 : t = R.length ∨ ∃ y, R[t]? = some y ∧ LtD d x y) :
    (R.take t ++ x :: R.drop t).Pairwise (LtD d) ∧ (R.take t ++ x :: R.drop t).Perm (x :: R) := by
  constructor
  · have hc := hR
    rw [← List.take_append_drop t R] at hc
    have hc := List.pairwise_append.1 hc
    have a1 : ∀ y ∈ R.take t, LtD d y x := fun y hy => cut_fits (L := R) (R := [x]) hR (List.pairwise_singleton _ _) (s := t) (t := 0)
      (h1.elim .inl fun ⟨y, h1, h3⟩ => .inr (.inr ⟨y, x, h1, rfl, h3⟩)) y hy x (by simp)
    have a2 : ∀ y ∈ R.drop t, LtD d x y := fun y hy => cut_fits (L := [x]) (R := R) (List.pairwise_singleton _ _) hR (s := 1) (t := t)
      (h2.elim (fun h2 => .inr (.inl h2)) fun ⟨y, h2, h3⟩ => .inr (.inr ⟨x, y, rfl, h2, h3⟩)) x (by simp) y hy
    refine List.pairwise_append.2 ⟨hc.1, List.pairwise_cons.2 ⟨a2, hc.2.1⟩, fun y hy z hz => ?_⟩
    rcases List.mem_cons.1 hz with rfl | hz
    · exact a1 y hy
    · exact hc.2.2 y hy z hz
  · have : (R.take t ++ x :: R.drop t).Perm (x :: (R.take t ++ R.drop t)) := List.perm_middle
    rwa [List.take_append_drop] at this
/-- The two halves, each sorted, are the whole, sorted. -/
theorem merged {d : Int → Int} {L R : List Int} (hL : L.Pairwise (LtD d)) (hR : R.Pairwise (LtD d)) {s t : Nat} (hs : StD d (L ++ R))
    (h1 : s = 0 ∨ t = R.length ∨ ∃ x y, L[s - 1]? = some x ∧ R[t]? = some y ∧ LtD d x y) (h2 : s = L.length ∨ t = 0 ∨ ∃ x y, L[s]? = some x ∧ R[t - 1]? = some y ∧ LtD d y x) :
    srtD d (L.take s ++ R.take t) ++ srtD d (L.drop s ++ R.drop t) = srtD d (L ++ R) := by
  have c1 := cut_fits hL hR h1
  have c2 := cut_fits (L := R) (R := L) hR hL (s := t) (t := s) (h2.elim (fun h2 => .inr (.inl h2)) fun h2 => h2.elim .inl fun ⟨x, y, e1, e2, e3⟩ => .inr (.inr ⟨y, x, e2, e1, e3⟩))
  have eL : L.take s ++ L.drop s = L := List.take_append_drop s L
  have eR : R.take t ++ R.drop t = R := List.take_append_drop t R
  have hn := hs.nodup
  have sub1 : (L.take s ++ R.take t).Nodup := (List.Sublist.append (List.take_sublist s L) (List.take_sublist t R)).nodup hn
  have sub2 : (L.drop s ++ R.drop t).Nodup := (List.Sublist.append (List.drop_sublist s L) (List.drop_sublist t R)).nodup hn
  have hh := halves (ltD_str d) (L1 := L.take s) (L2 := L.drop s) (R1 := R.take t) (R2 := R.drop t) (by rw [eL]; exact hL) (by rw [eR]; exact hR) c1 c2 (srtD_perm d _) (srtD_perm d _) (srtD_sorted sub1) (srtD_sorted sub2)
  rw [eL, eR] at hh
  exact srtD_of hh.2 hh.1
theorem StD.sub {d : Int → Int} {l l' : List Int} (h : StD d l) (hs : l'.Sublist l) : StD d l' := List.Pairwise.sublist hs h
theorem two_get {α : Type} {z P Q R : List α} {x y : α} {i j : Nat} (h : z = P ++ x :: (Q ++ y :: R)) (hi : i = P.length) (hj : j = P.length + 1 + Q.length) :
    z[i]? = some x ∧ z[j]? = some y ∧ (z.set i y).set j x = P ++ y :: (Q ++ x :: R) ∧ (z.set j x).set i y = P ++ y :: (Q ++ x :: R) := by
  subst h; subst hi; subst hj
  exact ⟨get_mid _ _ _, get_mid2 _ _ _ _ _, swp _ _ _ _ _, swp' _ _ _ _ _⟩
theorem drop_next {α : Type} {l : List α} {i : Nat} (h : i < l.length) : ∃ x, l[i]? = some x ∧ l.drop i = x :: l.drop (i + 1) ∧ l.take (i + 1) = l.take i ++ [x] := by
  refine ⟨l[i], List.getElem?_eq_getElem h, List.drop_eq_getElem_cons h, ?_⟩
  rw [List.take_add_one, List.getElem?_eq_getElem h]; rfl
end Go.Gm
end

section
set_option linter.unusedVariables false
set_option linter.unusedSimpArgs false
namespace Go.Gm
/-- Each stretch of bs elements sorted by itself. -/
def blk (d : Int → Int) (bs : Nat) (l : List Int) : List Int := if h : bs = 0 ∨ l.length ≤ bs then srtD d l else srtD d (l.take bs) ++ blk d bs (l.drop bs)
termination_by l.length
decreasing_by rw [List.length_drop]; omega
theorem blk_small {d : Int → Int} {bs : Nat} {l : List Int} (h : l.length ≤ bs) : blk d bs l = srtD d l := by rw [blk, dif_pos (.inr h)]
theorem blk_nil (d : Int → Int) (bs : Nat) : blk d bs [] = [] := by rw [blk_small (by simp)]; rfl
theorem blk_big {d : Int → Int} {bs : Nat} {l : List Int} (h0 : 0 < bs) (h : bs ≤ l.length) : blk d bs l = srtD d (l.take bs) ++ blk d bs (l.drop bs) := by
  by_cases e : l.length = bs
  · rw [blk_small (by omega), List.take_of_length_le (by omega), List.drop_eq_nil_of_le (by omega), blk_nil, List.append_nil]
  · rw [blk, dif_neg (by omega)]
theorem blk_perm (d : Int → Int) (bs : Nat) (l : List Int) : (blk d bs l).Perm l := by
  rw [blk]
  split
  · exact srtD_perm d l
  · rename_i h
    have := blk_perm d bs (l.drop bs)
    have h2 := (srtD_perm d (l.take bs)).append this
    rwa [List.take_append_drop] at h2
termination_by l.length
decreasing_by rw [List.length_drop]; omega
theorem blk_len (d : Int → Int) (bs : Nat) (l : List Int) : (blk d bs l).length = l.length := (blk_perm d bs l).length_eq
/-- Two neighbours, each sorted, stand as a merge asks. -/
theorem StD.sorted2 {d : Int → Int} {L R : List Int} (h : StD d (L ++ R)) : StD d (srtD d L ++ srtD d R) := by
  have h1 := List.pairwise_append.1 h
  have nd := h.nodup
  have nL : L.Nodup := (List.sublist_append_left L R).nodup nd
  have nR : R.Nodup := (List.sublist_append_right L R).nodup nd
  refine List.pairwise_append.2 ⟨?_, ?_, fun x hx y hy => h1.2.2 x ((srtD_perm d L).subset hx) y ((srtD_perm d R).subset hy)⟩
  · refine List.Pairwise.imp (fun {x y} q e => ?_) (srtD_sorted (d := d) nL)
    rw [ltD_iff] at q; omega
  · refine List.Pairwise.imp (fun {x y} q e => ?_) (srtD_sorted (d := d) nR)
    rw [ltD_iff] at q; omega
theorem srtD_two {d : Int → Int} {L R : List Int} (h : StD d (L ++ R)) : srtD d (srtD d L ++ srtD d R) = srtD d (L ++ R) := srtD_same h.nodup ((srtD_perm d L).append (srtD_perm d R))
theorem take_two {α : Type} (X : List α) (k : Nat) : X.take (2 * k) = X.take k ++ (X.drop k).take k := by
  rw [show 2 * k = k + k by omega, List.take_add]
theorem drop_two {α : Type} (X : List α) (k : Nat) : X.drop (2 * k) = (X.drop k).drop k := by rw [List.drop_drop, show k + k = 2 * k by omega]
theorem blk_two {d : Int → Int} {bs : Nat} {X : List Int} (h0 : 0 < bs) (h : 2 * bs ≤ X.length) : blk d bs X = srtD d (X.take bs) ++ (srtD d ((X.drop bs).take bs) ++ blk d bs (X.drop (2 * bs))) := by
  rw [blk_big h0 (by omega), blk_big (l := X.drop bs) h0 (by rw [List.length_drop]; omega), drop_two]
/-- A stage: what is merged so far, and what is not. -/
structure Stg (d : Int → Int) (l : List Int) (b1 b2 n a : Nat) (P z : List Int) : Prop where
  hP : P.length = a
  ha : a ≤ n
  hn : l.length = n
  hz : z = P ++ blk d b1 (l.drop a)
  hb : blk d b2 l = P ++ blk d b2 (l.drop a)
theorem Stg.start {d : Int → Int} {l : List Int} {b1 b2 n : Nat} (hn : l.length = n) : Stg d l b1 b2 n 0 [] (blk d b1 l) := ⟨rfl, Nat.zero_le _, hn, rfl, rfl⟩
theorem Stg.len {d : Int → Int} {l : List Int} {b1 b2 n a : Nat} {P z : List Int} (s : Stg d l b1 b2 n a P z) : z.length = n := by
  rw [s.hz, List.length_append, blk_len, List.length_drop, s.hP, s.hn]; have := s.ha; omega
/-- Two stretches side by side are merged. -/
theorem Stg.round {d : Int → Int} {l : List Int} {bs n a : Nat} {P z : List Int} (s : Stg d l bs (2 * bs) n a P z) (h0 : 0 < bs) (hb : a + 2 * bs ≤ n) (hs : StD d l) :
    ∃ L R B z', z = P ++ (L ++ (R ++ B)) ∧ z' = P ++ (srtD d (L ++ R) ++ B) ∧ L.length = bs ∧ R.length = bs ∧ L.Pairwise (LtD d) ∧ R.Pairwise (LtD d) ∧ StD d (L ++ R) ∧ (∀ x ∈ L ++ R, x ∈ l) ∧ Stg d l bs (2 * bs) n (a + 2 * bs) (P ++ srtD d (L ++ R)) z' := by
  have hl := s.hn
  have hX : 2 * bs ≤ (l.drop a).length := by rw [List.length_drop]; omega
  obtain ⟨X, hXX⟩ : ∃ X, X = l.drop a := ⟨_, rfl⟩
  have sub : X.Sublist l := by rw [hXX]; exact List.drop_sublist _ _
  have hsX : StD d (X.take bs ++ (X.drop bs).take bs) := by rw [← take_two]; exact hs.sub ((List.take_sublist _ _).trans sub)
  have nd := hsX.nodup
  have nL : (X.take bs).Nodup := (List.sublist_append_left _ _).nodup nd
  have nR : ((X.drop bs).take bs).Nodup := (List.sublist_append_right _ _).nodup nd
  rw [← hXX] at hX
  refine ⟨srtD d (X.take bs), srtD d ((X.drop bs).take bs), blk d bs (X.drop (2 * bs)), _, ?_, rfl, ?_, ?_, srtD_sorted nL, srtD_sorted nR, hsX.sorted2, ?_, ?_, ?_, ?_, ?_, ?_⟩
  · rw [s.hz, ← hXX, blk_two h0 hX]
  · rw [srtD_len, List.length_take]; omega
  · rw [srtD_len, List.length_take, List.length_drop]; omega
  · intro x hx
    have hx := ((srtD_perm d _).append (srtD_perm d _)).subset hx
    rw [← take_two] at hx
    exact sub.subset ((List.take_sublist _ _).subset hx)
  · rw [List.length_append, srtD_two hsX, srtD_len, ← take_two, List.length_take, s.hP]; omega
  · omega
  · exact hl
  · rw [srtD_two hsX, ← take_two, hXX, List.drop_drop, List.append_assoc]
  · rw [s.hb, ← hXX, blk_big (by omega) hX, srtD_two hsX, ← take_two, hXX, List.drop_drop, List.append_assoc]
/-- The last stretch, and what is left. -/
theorem Stg.last {d : Int → Int} {l : List Int} {bs n a : Nat} {P z : List Int} (s : Stg d l bs (2 * bs) n a P z) (h0 : 0 < bs) (hb : ¬ a + 2 * bs ≤ n) (hm : a + bs < n) (hs : StD d l) :
    ∃ L R, z = P ++ (L ++ (R ++ [])) ∧ blk d (2 * bs) l = P ++ (srtD d (L ++ R) ++ []) ∧ L.length = bs ∧ a + bs + R.length = n ∧ L.Pairwise (LtD d) ∧ R.Pairwise (LtD d) ∧ StD d (L ++ R) ∧ (∀ x ∈ L ++ R, x ∈ l) := by
  have hl := s.hn
  obtain ⟨X, hXX⟩ : ∃ X, X = l.drop a := ⟨_, rfl⟩
  have hX : X.length + a = n := by rw [hXX, List.length_drop]; omega
  have sub : X.Sublist l := by rw [hXX]; exact List.drop_sublist _ _
  have hsX : StD d (X.take bs ++ X.drop bs) := by rw [List.take_append_drop]; exact hs.sub sub
  have nd := hsX.nodup
  have nL : (X.take bs).Nodup := (List.sublist_append_left _ _).nodup nd
  have nR : (X.drop bs).Nodup := (List.sublist_append_right _ _).nodup nd
  refine ⟨srtD d (X.take bs), srtD d (X.drop bs), ?_, ?_, ?_, ?_, srtD_sorted nL, srtD_sorted nR, hsX.sorted2, ?_⟩
  · rw [s.hz, ← hXX, blk_big h0 (by omega), blk_small (l := X.drop bs) (by rw [List.length_drop]; omega), List.append_nil]
  · rw [s.hb, ← hXX, blk_small (by omega), srtD_two hsX, List.take_append_drop, List.append_nil]
  · rw [srtD_len, List.length_take]; omega
  · rw [srtD_len, List.length_drop]; omega
  · intro x hx
    have hx := ((srtD_perm d _).append (srtD_perm d _)).subset hx
    rw [List.take_append_drop] at hx
    exact sub.subset hx
theorem Stg.rest {d : Int → Int} {l : List Int} {bs n a : Nat} {P z : List Int} (s : Stg d l bs (2 * bs) n a P z) (hm : ¬ a + bs < n) : z = blk d (2 * bs) l := by
  have hl := s.hn
  rw [s.hz, s.hb, blk_small (by rw [List.length_drop]; omega), blk_small (by rw [List.length_drop]; omega)]
/-- The first stage: stretch by stretch. -/
structure Stg0 (d : Int → Int) (l : List Int) (bs n a : Nat) (P z : List Int) : Prop where
  hP : P.length = a
  ha : a ≤ n
  hn : l.length = n
  hz : z = P ++ l.drop a
  hb : blk d bs l = P ++ blk d bs (l.drop a)
theorem Stg0.len {d : Int → Int} {l : List Int} {bs n a : Nat} {P z : List Int} (s : Stg0 d l bs n a P z) : z.length = n := by
  rw [s.hz, List.length_append, List.length_drop, s.hP, s.hn]; have := s.ha; omega
theorem Stg0.round {d : Int → Int} {l : List Int} {bs n a : Nat} {P z : List Int} (s : Stg0 d l bs n a P z) (h0 : 0 < bs) (hb : a + bs ≤ n) (hs : StD d l) :
    ∃ X B, z = P ++ (X ++ B) ∧ X.length = bs ∧ StD d X ∧ (∀ x ∈ X, x ∈ l) ∧ Stg0 d l bs n (a + bs) (P ++ srtD d X) (P ++ (srtD d X ++ B)) := by
  have hl := s.hn
  have hX : bs ≤ (l.drop a).length := by rw [List.length_drop]; omega
  refine ⟨(l.drop a).take bs, (l.drop a).drop bs, by rw [List.take_append_drop]; exact s.hz, by rw [List.length_take]; omega, hs.sub ((List.take_sublist _ _).trans (List.drop_sublist _ _)), fun x hx => ((List.take_sublist _ _).trans (List.drop_sublist _ _)).subset hx, ?_, by omega, hl, ?_, ?_⟩
  · rw [List.length_append, srtD_len, List.length_take, s.hP]; omega
  · rw [List.drop_drop, List.append_assoc]
  · rw [s.hb, blk_big h0 hX, List.drop_drop, List.append_assoc]
theorem Stg0.last {d : Int → Int} {l : List Int} {bs n a : Nat} {P z : List Int} (s : Stg0 d l bs n a P z) (hb : ¬ a + bs ≤ n) (hs : StD d l) :
    ∃ X, z = P ++ (X ++ []) ∧ n = a + X.length ∧ StD d X ∧ (∀ x ∈ X, x ∈ l) ∧ blk d bs l = P ++ (srtD d X ++ []) := by
  have hl := s.hn
  have ha := s.ha
  refine ⟨l.drop a, by rw [List.append_nil]; exact s.hz, by rw [List.length_drop]; omega, hs.sub (List.drop_sublist _ _), fun x hx => (List.drop_sublist _ _).subset hx, ?_⟩
  rw [s.hb, blk_small (by rw [List.length_drop]; omega), List.append_nil]
end Go.Gm
end
