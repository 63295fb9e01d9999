/- The plain law of putting: in a sorted state, the program's put is the reference's. -/
import Derived.Test.YtkcllejnmpnjfaaS6
namespace Go.Proofs.Ytkcllejnmpnjfaa
open Go.Pm
set_option linter.unusedSimpArgs false
set_option linter.unusedVariables false
def ltE (x y : Ent) : Prop := x.kind < y.kind ∨ (x.kind = y.kind ∧ x.key < y.key)
theorem lessE_iff (x y : Ent) : lessE x y = true ↔ ltE x y := by simp [lessE, ltE]
theorem ltE_trans {x y z : Ent} (h1 : ltE x y) (h2 : ltE y z) : ltE x z := by unfold ltE at *; omega
theorem ordE_neg (x y : Ent) : ordE x y < 0 ↔ ltE x y := by
  have h := ordE_lt x y
  rw [← lessE_iff]
  cases hl : lessE x y with
  | true => rw [hl] at h; simp at h; simp; omega
  | false => rw [hl] at h; simp at h; simp; omega
theorem ordE_zero (x y : Ent) : ordE x y = 0 ↔ x.kind = y.kind ∧ x.key = y.key := by
  unfold ordE orI cmpI
  by_cases h1 : x.kind < y.kind
  · simp [h1]; omega
  · by_cases h2 : x.kind > y.kind
    · simp [h1, h2]; omega
    · have h3 : x.kind = y.kind := by omega
      by_cases h4 : x.key < y.key
      · simp [h1, h2, h3, h4]; omega
      · by_cases h5 : x.key > y.key
        · simp [h1, h2, h3, h4, h5]; omega
        · have : x.key = y.key := by omega
          simp [h1, h2, h3, h4, h5, this]
theorem bs_spec (xs : List Ent) (x : Ent) (hs : xs.Pairwise ltE) : ∀ (n i j : Nat), j - i ≤ n → i ≤ j → j ≤ xs.length → (∀ a y, a < i → xs[a]? = some y → ltE y x) → (∀ a y, j ≤ a → xs[a]? = some y → ¬ ltE y x) →
    (∀ a y, a < bsI xs x i j → xs[a]? = some y → ltE y x) ∧ (∀ a y, bsI xs x i j ≤ a → xs[a]? = some y → ¬ ltE y x) := by
  intro n
  have hp : ∀ (a b : Nat) (y z : Ent), a < b → xs[a]? = some y → xs[b]? = some z → ltE y z := by
    intro a b y z hab hy hz
    obtain ⟨ha, rfl⟩ := List.getElem?_eq_some_iff.1 hy
    obtain ⟨hb, rfl⟩ := List.getElem?_eq_some_iff.1 hz
    exact List.pairwise_iff_getElem.1 hs a b ha hb hab
  induction n with
  | zero =>
    intro i j h hij hj h1 h2
    have : i = j := by omega
    subst this
    rw [bsI, dif_neg (by omega)]
    exact ⟨h1, h2⟩
  | succ n ih =>
    intro i j h hij hj h1 h2
    by_cases hlt : i < j
    · rw [bsI, dif_pos hlt]
      have hm : (i + j) / 2 < xs.length := by omega
      rw [List.getElem?_eq_getElem hm]
      simp only
      have hym : xs[(i + j) / 2]? = some xs[(i + j) / 2] := List.getElem?_eq_getElem hm
      generalize xs[(i + j) / 2] = y at hym
      by_cases ho : ordE y x < 0
      · rw [if_pos ho]
        have hlt2 := (ordE_neg y x).1 ho
        refine ih _ _ (by omega) (by omega) hj (fun a z ha hz => ?_) h2
        by_cases hae : a = (i + j) / 2
        · subst hae; rw [hym] at hz; cases hz; exact hlt2
        · exact ltE_trans (hp a _ z y (by omega) hz hym) hlt2
      · rw [if_neg ho]
        have hlt2 : ¬ ltE y x := fun h => ho ((ordE_neg y x).2 h)
        refine ih _ _ (by omega) (by omega) (by omega) h1 (fun a z ha hz hzx => ?_)
        by_cases hae : a = (i + j) / 2
        · subst hae; rw [hym] at hz; cases hz; exact hlt2 hzx
        · exact hlt2 (ltE_trans (hp _ a y z (by omega) hym hz) hzx)
    · have : i = j := by omega
      subst this
      rw [bsI, dif_neg (by omega)]
      exact ⟨h1, h2⟩
theorem otherK_lt {x y : Ent} (h : ltE y x) : otherK x y = true := by
  unfold ltE at h; unfold otherK; simp; omega
theorem otherK_gt {x y : Ent} (h : ltE x y) : otherK x y = true := by
  unfold ltE at h; unfold otherK; simp; omega
theorem without_app (a b : List Ent) (x : Ent) : without (a ++ b) x = without a x ++ without b x := List.filter_append ..
theorem without_all {l : List Ent} {x : Ent} (h : ∀ y ∈ l, otherK x y = true) : without l x = l := List.filter_eq_self.2 h
theorem lessN_app {a b : List Ent} {x : Ent} (h1 : ∀ y ∈ a, ltE y x) (h2 : ∀ y ∈ b, ¬ ltE y x) : lessN (a ++ b) x = a.length := by
  unfold lessN
  rw [List.takeWhile_append_of_pos (fun y hy => (lessE_iff y x).2 (h1 y hy))]
  cases b with
  | nil => simp
  | cons y b =>
    have : lessE y x = false := by
      cases hl : lessE y x
      · rfl
      · exact absurd ((lessE_iff y x).1 hl) (h2 y List.mem_cons_self)
    rw [List.takeWhile_cons, this]
    simp
/-- In a sorted state: what stands before an entry's place, whether it is there, and what stands behind. -/
theorem put_parts (xs : List Ent) (x : Ent) (hs : xs.Pairwise ltE) : ∃ (a b c : List Ent), xs = a ++ b ++ c ∧ a.length = bsI xs x 0 xs.length ∧ (∀ y ∈ a, ltE y x) ∧ (∀ y ∈ c, ltE x y) ∧
    ((isAt xs x (bsI xs x 0 xs.length) = true ∧ ∃ y, b = [y] ∧ y.kind = x.kind ∧ y.key = x.key) ∨ (isAt xs x (bsI xs x 0 xs.length) = false ∧ b = [])) := by
  have hb := bs_spec xs x hs _ 0 xs.length (Nat.le_refl _) (Nat.zero_le _) (Nat.le_refl _) (fun a y ha => by omega) (fun a y ha hy => by rw [List.getElem?_eq_none ha] at hy; cases hy)
  have hk := bsI_le xs x
  generalize bsI xs x 0 xs.length = k at *
  obtain ⟨h1, h2⟩ := hb
  have hA : ∀ y ∈ xs.take k, ltE y x := fun y hy => by
    obtain ⟨i, hi⟩ := List.mem_iff_getElem?.1 hy
    rw [List.getElem?_take] at hi
    split at hi
    · rename_i hik; exact h1 i y hik hi
    · cases hi
  have hB : ∀ y ∈ xs.drop k, ¬ ltE y x := fun y hy => by
    obtain ⟨i, hi⟩ := List.mem_iff_getElem?.1 hy
    rw [List.getElem?_drop] at hi
    exact h2 (k + i) y (by omega) hi
  have hsB : (xs.drop k).Pairwise ltE := hs.sublist (List.drop_sublist _ _)
  have hla : (xs.take k).length = k := by rw [List.length_take]; omega
  have hia : isAt xs x k = match xs.drop k with
      | y :: _ => ordE y x == 0
      | [] => false := by
    unfold isAt
    have : xs[k]? = (xs.drop k)[0]? := by rw [List.getElem?_drop]; rfl
    rw [this]
    cases xs.drop k <;> rfl
  cases hd : xs.drop k with
  | nil =>
    rw [hd] at hia
    refine ⟨xs.take k, [], [], ?_, hla, hA, by simp, .inr ⟨hia, rfl⟩⟩
    have := List.take_append_drop k xs
    rw [hd] at this
    simpa using this.symm
  | cons y c =>
    rw [hd] at hia hB hsB
    have hyc := List.pairwise_cons.1 hsB
    have hxs : xs = xs.take k ++ y :: c := by rw [← hd, List.take_append_drop]
    have hny : ¬ ltE y x := hB y List.mem_cons_self
    by_cases h0 : ordE y x = 0
    · have hsame := (ordE_zero y x).1 h0
      refine ⟨xs.take k, [y], c, by rw [List.append_assoc]; exact hxs, hla, hA, fun z hz => ?_, .inl ⟨by rw [hia]; simp [h0], y, rfl, hsame.1, hsame.2⟩⟩
      have := hyc.1 z hz
      unfold ltE at *
      omega
    · have hns : ¬ (y.kind = x.kind ∧ y.key = x.key) := fun h => h0 ((ordE_zero y x).2 h)
      have hxy : ltE x y := by unfold ltE at *; omega
      refine ⟨xs.take k, [], y :: c, by rw [List.append_nil]; exact hxs, hla, hA, fun z hz => ?_, .inr ⟨by rw [hia]; simp [h0], rfl⟩⟩
      rcases List.mem_cons.1 hz with rfl | hz
      · exact hxy
      · exact ltE_trans hxy (hyc.1 z hz)
def putS (xs : List Ent) (x : Ent) : List Ent := if x.id = 0 then without xs x else putL (without xs x) x
theorem put_same (xs : List Ent) (x : Ent) (hs : xs.Pairwise ltE) : putI xs x = putS xs x ∧ (putI xs x).Pairwise ltE := by
  obtain ⟨a, b, c, hxs, hla, hA, hC, hcase⟩ := put_parts xs x hs
  unfold putI putS
  have hsac : (a ++ c).Pairwise ltE := by
    refine hs.sublist ?_
    rw [hxs]
    exact List.Sublist.append (List.sublist_append_left a b) (List.Sublist.refl c)
  have hsx : (a ++ x :: c).Pairwise ltE := by
    rw [List.pairwise_append] at hsac ⊢
    refine ⟨hsac.1, List.pairwise_cons.2 ⟨hC, hsac.2.1⟩, fun y hy z hz => ?_⟩
    rcases List.mem_cons.1 hz with rfl | hz
    · exact hA y hy
    · exact hsac.2.2 y hy z hz
  have hCn : ∀ y ∈ c, ¬ ltE y x := fun y hy h => by have := hC y hy; unfold ltE at *; omega
  have hwA : without a x = a := without_all fun y hy => otherK_lt (hA y hy)
  have hwC : without c x = c := without_all fun y hy => otherK_gt (hC y hy)
  have hput : putL (a ++ c) x = a ++ x :: c := by
    unfold putL
    rw [lessN_app hA hCn, List.take_left, List.drop_left]
  have hw : without xs x = a ++ c := by
    rw [hxs, without_app, without_app, hwA, hwC]
    rcases hcase with ⟨_, y, rfl, h1, h2⟩ | ⟨_, rfl⟩
    · have : without [y] x = [] := by
        unfold without
        rw [List.filter_cons, if_neg (by simp [otherK, h1, h2]), List.filter_nil]
      rw [this, List.append_nil]
    · show a ++ without [] x ++ c = a ++ c
      simp [without]
  rw [hw, hput]
  generalize bsI xs x 0 xs.length = k at *
  rcases hcase with ⟨hi, y, rfl, h1, h2⟩ | ⟨hi, rfl⟩
  · rw [hi, if_pos rfl, if_pos rfl]
    have e1 : xs.take k = a := by rw [hxs, ← hla, List.append_assoc, List.take_left]
    have e2 : xs.drop (k + 1) = c := by
      rw [hxs, ← hla]
      have : (a ++ [y]).length = a.length + 1 := by simp
      rw [← this, List.drop_left]
    have e3 : xs.set k x = a ++ x :: c := by
      rw [hxs, ← hla, List.append_assoc, List.set_append_right _ _ (Nat.le_refl _), Nat.sub_self]
      rfl
    rw [e1, e2, e3]
    split
    · exact ⟨rfl, hsac⟩
    · exact ⟨rfl, hsx⟩
  · have hff : ¬ (false = true) := by simp
    rw [hi, if_neg hff, if_neg hff]
    rw [List.append_nil] at hxs
    have e1 : xs.take k = a := by rw [hxs, ← hla, List.take_left]
    have e2 : xs.drop k = c := by rw [hxs, ← hla, List.drop_left]
    rw [e1, e2]
    split
    · exact ⟨hxs, hs⟩
    · exact ⟨rfl, hsx⟩
theorem okGo_at {ok : Ent → Bool} {xs : List Ent} : ∀ (l : List Ent) (i : Nat), xs.drop i = l → okGo ok xs i l = true → ∀ j y, i ≤ j → xs[j]? = some y → okAt ok xs j y = true
  | [], i, hl, _, j, y, hij, hy => by
    have := List.drop_eq_nil_iff.1 hl
    rw [List.getElem?_eq_none (by omega)] at hy; cases hy
  | x :: l, i, hl, h, j, y, hij, hy => by
    unfold okGo at h
    obtain ⟨h1, h2⟩ := Bool.and_eq_true_iff.1 h
    have hxi : xs[i]? = some x := by
      have : (xs.drop i)[0]? = some x := by rw [hl]; rfl
      rwa [List.getElem?_drop] at this
    by_cases e : i = j
    · subst e; rw [hxi] at hy; cases hy; exact h1
    · have hl2 : xs.drop (i + 1) = l := by rw [← List.tail_drop, hl]; rfl
      exact okGo_at l (i + 1) hl2 h2 j y (by omega) hy
theorem okRow_sorted {ok : Ent → Bool} {xs : List Ent} (h : okRow ok xs = true) : xs.Pairwise ltE := by
  have hat := okGo_at xs 0 rfl h
  rw [List.pairwise_iff_getElem]
  intro i j hi hj hij
  have key : ∀ d, i + 1 + d < xs.length → ∀ z, xs[i + 1 + d]? = some z → ltE xs[i] z := by
    intro d
    induction d with
    | zero =>
      intro hd z hz
      have := hat (i + 1) z (by omega) hz
      unfold okAt at this
      have h0 : (i + 1 == 0) = false := by simp
      rw [h0, Bool.false_or, Nat.add_sub_cancel, List.getElem?_eq_getElem hi] at this
      exact (lessE_iff _ _).1 (Bool.and_eq_true_iff.1 this).2
    | succ d ih =>
      intro hd z hz
      have hd' : i + 1 + d < xs.length := by omega
      have h1 := ih hd' _ (List.getElem?_eq_getElem hd')
      have := hat (i + 1 + (d + 1)) z (by omega) hz
      unfold okAt at this
      have h0 : (i + 1 + (d + 1) == 0) = false := by simp
      rw [h0, Bool.false_or, show i + 1 + (d + 1) - 1 = i + 1 + d by omega, List.getElem?_eq_getElem hd'] at this
      exact ltE_trans h1 ((lessE_iff _ _).1 (Bool.and_eq_true_iff.1 this).2)
  have := key (j - (i + 1)) (by omega) xs[j] (by rw [show i + 1 + (j - (i + 1)) = j by omega]; exact List.getElem?_eq_getElem hj)
  exact this
theorem putI_len (xs : List Ent) (x : Ent) : (putI xs x).length ≤ xs.length + 1 := by
  have hk := bsI_le xs x
  unfold putI
  split
  · split
    · simp only [List.length_append, List.length_take, List.length_drop]; omega
    · omega
  · split
    · simp
    · simp only [List.length_append, List.length_take, List.length_cons, List.length_drop]; omega
end Go.Proofs.Ytkcllejnmpnjfaa
