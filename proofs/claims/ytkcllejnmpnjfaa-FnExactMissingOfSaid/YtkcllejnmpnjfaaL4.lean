/- Plain graphs of events: what is right, where an event is, depths. No program in sight. Depths of events: passes over a row until nothing turns. No program in sight. Sorted lists: there is one only; merging in place; rotating. No program in sight. -/
section
set_option linter.unusedVariables false
set_option linter.unusedSimpArgs false
namespace Go.Gm
def isB (n a b : Int) : Bool := decide (n ≥ a) && decide (n ≤ b)
theorem isB_iff {n a b : Int} : isB n a b = true ↔ a ≤ n ∧ n ≤ b := by simp [isB]
structure Ev where
  id : Int
  room : Int
  author : Int
  kind : Int
  key : Int
  n : Int
  text : ByteArray
  prev : List Int
  time : Int
structure Gr where
  room : Int
  events : List Ev
  parked : List Ev
/-- What is ahead is not less. -/
def notLess (p : Option Int) (n : Int) : Bool := match p with
  | none => false
  | some q => decide (q ≥ n)
/-- Numbers that rise, each from lo to hi; p: the one ahead. -/
def incr (lo hi : Int) : Option Int → List Int → Bool
  | _, [] => true
  | p, n :: l => isB n lo hi && (!notLess p n && incr lo hi (some n) l)
/-- The same, and none is id. -/
def incrN (id : Int) : Option Int → List Int → Bool
  | _, [] => true
  | p, n :: l => isB n 1 1000000 && (!(n == id) && (!notLess p n && incrN id (some n) l))
theorem incrN_eq (id : Int) : ∀ (l : List Int) (p : Option Int), incrN id p l = (incr 1 1000000 p l && !l.contains id)
  | [], p => by simp [incrN, incr]
  | n :: l, p => by
    rw [incrN, incr, incrN_eq id l, List.contains_cons]
    have e : (id == n) = (n == id) := by
      by_cases h : id = n
      · subst h; rfl
      · rw [beq_eq_false_iff_ne.2 h, beq_eq_false_iff_ne.2 (fun q => h q.symm)]
    rw [e]
    cases isB n 1 1000000 <;> cases (n == id) <;> cases notLess p n <;> cases incr 1 1000000 (some n) l <;> cases l.contains id <;> rfl
/-- What an event stands behind is right. -/
def prevR (l : List Int) (id : Int) : Bool := decide ((l.length : Int) ≤ 4) && incrN id none l
def bodyR (e : Ev) : Bool :=
  if e.kind = 1 then e.key == 0 && (e.n == 0 && ((e.text.size : Int) == 0))
  else if e.kind = 2 then isB e.key 1 6 && (isB e.n 1 4 && ((e.text.size : Int) == 0))
  else if e.kind = 3 then isB e.key 1 6 && (isB e.n 0 100 && ((e.text.size : Int) == 0))
  else if e.kind = 4 then e.key == 0 && (e.n == 0 && decide ((e.text.size : Int) ≤ 30))
  else if e.kind = 5 then e.key == 0 && (isB e.n 1 2 && ((e.text.size : Int) == 0))
  else if e.kind = 6 then e.key == 0 && (isB e.n 1 3 && ((e.text.size : Int) == 0))
  else if e.kind = 7 then e.key == 0 && (e.n == 0 && isB e.text.size 1 30)
  else e.kind == 8 && (isB e.key 1 1000000 && (e.n == 0 && ((e.text.size : Int) == 0)))
def evRight (e : Ev) : Bool :=
  isB e.id 1 1000000 && (isB e.room 1 3 && (isB e.author 1 6 && (isB e.time 0 1000000 && (prevR e.prev e.id && (((e.kind == 1) == ((e.prev.length : Int) == 0)) && bodyR e)))))
def hasId (l : List Ev) (id : Int) : Bool := l.any (fun e => e.id == id)
def allIn (l : List Ev) (e : Ev) : Bool := e.prev.all (hasId l)
/-- Events of a room that rise by id; p: the id ahead. -/
def rowFrom (room : Int) : Option Int → List Ev → Bool
  | _, [] => true
  | p, e :: l => evRight e && (e.room == room && (!notLess p e.id && rowFrom room (some e.id) l))
def rowR (l : List Ev) (room most : Int) : Bool := decide ((l.length : Int) ≤ most) && rowFrom room none l
def Srt (l : List Ev) : Prop := l.Pairwise fun a b => a.id < b.id
theorem rowFrom_srt {room : Int} : ∀ {l : List Ev} {p : Option Int}, rowFrom room p l = true → Srt l ∧ (∀ e ∈ l, evRight e = true ∧ e.room = room ∧ ∀ q, p = some q → q < e.id)
  | [], p, _ => ⟨List.Pairwise.nil, fun e h => by cases h⟩
  | e :: l, p, h => by
    simp only [rowFrom, Bool.and_eq_true, Bool.not_eq_true', beq_iff_eq] at h
    obtain ⟨h1, h2, h3, h4⟩ := h
    obtain ⟨k1, k2⟩ := rowFrom_srt h4
    have hp : ∀ q, p = some q → q < e.id := by
      rintro q rfl
      simp [notLess] at h3
      exact h3
    refine ⟨List.pairwise_cons.2 ⟨fun a ha => (k2 a ha).2.2 _ rfl, k1⟩, ?_⟩
    intro a ha
    rcases List.mem_cons.1 ha with rfl | ha
    · exact ⟨h1, h2, hp⟩
    · obtain ⟨g1, g2, g3⟩ := k2 a ha
      exact ⟨g1, g2, fun q hq => by have := hp q hq; have := g3 _ rfl; omega⟩
/-- Where the id is in the row, or would be. -/
def posE (l : List Ev) (id : Int) : Nat := (l.takeWhile fun e => decide (e.id < id)).length
theorem takeWhile_length_le {α : Type} (p : α → Bool) : ∀ l : List α, (l.takeWhile p).length ≤ l.length
  | [] => Nat.le_refl _
  | x :: l => by
    rw [List.takeWhile_cons]
    split
    · simp only [List.length_cons]; have := takeWhile_length_le p l; omega
    · simp
theorem posE_le (l : List Ev) (id : Int) : posE l id ≤ l.length := takeWhile_length_le _ l
theorem takeWhile_in {α : Type} (p : α → Bool) : ∀ (l : List α) (k : Nat) (x : α), k < (l.takeWhile p).length → l[k]? = some x → p x = true
  | [], k, x, h, _ => by simp at h
  | y :: l, k, x, h, hx => by
    rw [List.takeWhile_cons] at h
    split at h
    · rename_i hy
      cases k with
      | zero => simp at hx; rw [← hx]; exact hy
      | succ k => simp at h hx; exact takeWhile_in p l k x h hx
    · simp at h
theorem takeWhile_end {α : Type} (p : α → Bool) : ∀ (l : List α) (x : α), l[(l.takeWhile p).length]? = some x → p x = false
  | [], x, hx => by simp at hx
  | y :: l, x, hx => by
    rw [List.takeWhile_cons] at hx
    split at hx
    · simp at hx; exact takeWhile_end p l x hx
    · rename_i hy
      simp at hx; rw [← hx]; simpa using hy
/-- Halving: the first place from i on at which p ends. -/
def bsP {α : Type} (p : α → Bool) (xs : List α) (i j : Nat) : Nat :=
  if h : i < j then match xs[(i + j) / 2]? with
    | some y => if p y then bsP p xs ((i + j) / 2 + 1) j else bsP p xs i ((i + j) / 2)
    | none => i
  else i
termination_by j - i
decreasing_by all_goals omega
theorem bsP_spec {α : Type} {p : α → Bool} {xs : List α} (hm : ∀ (a b : Nat) (x y : α), a ≤ b → xs[a]? = some x → xs[b]? = some y → p y = true → p x = true) :
    ∀ (n i j : Nat), j - i = n → i ≤ j → j ≤ xs.length → (∀ k x, k < i → xs[k]? = some x → p x = true) → (∀ k x, j ≤ k → xs[k]? = some x → p x = false) → bsP p xs i j = (xs.takeWhile p).length
  | n, i, j, hn, hij, hj, h1, h2 => by
    rw [bsP]
    by_cases h : i < j
    · rw [dif_pos h]
      have hh : (i + j) / 2 < xs.length := by omega
      obtain ⟨y, hy⟩ : ∃ y, xs[(i + j) / 2]? = some y := ⟨_, List.getElem?_eq_getElem hh⟩
      rw [hy]
      simp only
      cases hp : p y with
      | true =>
        simp only [if_true]
        refine bsP_spec hm (j - ((i + j) / 2 + 1)) _ _ rfl (by omega) hj ?_ h2
        intro k x hk hx
        exact hm k ((i + j) / 2) x y (by omega) hx hy hp
      | false =>
        simp only [if_false, Bool.false_eq_true]
        refine bsP_spec hm ((i + j) / 2 - i) _ _ rfl (by omega) (by omega) h1 ?_
        intro k x hk hx
        cases hpx : p x with
        | false => rfl
        | true => rw [hm _ k y x hk hy hx hpx] at hp; cases hp
    · rw [dif_neg h]
      have hi : i = j := by omega
      subst hi
      rcases Nat.lt_trichotomy i (xs.takeWhile p).length with h3 | h3 | h3
      · have hl := takeWhile_length_le p xs
        obtain ⟨y, hy⟩ : ∃ y, xs[i]? = some y := ⟨_, List.getElem?_eq_getElem (by omega)⟩
        have := takeWhile_in p xs i y h3 hy
        rw [h2 i y (Nat.le_refl _) hy] at this
        cases this
      · exact h3
      · obtain ⟨y, hy⟩ : ∃ y, xs[(xs.takeWhile p).length]? = some y := ⟨_, List.getElem?_eq_getElem (by omega)⟩
        have := takeWhile_end p xs y hy
        rw [h1 _ y h3 hy] at this
        cases this
termination_by n => n
decreasing_by all_goals omega
theorem Srt.get {l : List Ev} (h : Srt l) {a b : Nat} {x y : Ev} (hab : a < b) (hx : l[a]? = some x) (hy : l[b]? = some y) : x.id < y.id := by
  obtain ⟨h1, rfl⟩ := List.getElem?_eq_some_iff.1 hx
  obtain ⟨h2, rfl⟩ := List.getElem?_eq_some_iff.1 hy
  exact List.pairwise_iff_getElem.1 h a b h1 h2 hab
theorem Srt.mono {l : List Ev} (h : Srt l) (id : Int) (a b : Nat) (x y : Ev) (hab : a ≤ b) (hx : l[a]? = some x) (hy : l[b]? = some y) (hp : decide (y.id < id) = true) : decide (x.id < id) = true := by
  simp only [decide_eq_true_eq] at hp ⊢
  rcases Nat.lt_or_ge a b with h1 | h1
  · have := h.get h1 hx hy; omega
  · have : a = b := by omega
    subst this
    rw [hx] at hy; cases hy; exact hp
theorem bsE {l : List Ev} (h : Srt l) (id : Int) : bsP (fun e => decide (e.id < id)) l 0 l.length = posE l id :=
  bsP_spec (fun a b x y => h.mono id a b x y) _ _ _ rfl (Nat.zero_le _) (Nat.le_refl _) (fun k x hk => absurd hk (Nat.not_lt_zero _)) (fun k x hk hx => by rw [List.getElem?_eq_none hk] at hx; cases hx)
/-- Whether the id is there, asked at its place. -/
def isAtE (l : List Ev) (id : Int) (i : Nat) : Bool := match l[i]? with
  | some e => e.id == id
  | none => false
theorem isAtE_has {l : List Ev} (h : Srt l) (id : Int) : isAtE l id (posE l id) = hasId l id := by
  unfold isAtE hasId
  cases hx : l[posE l id]? with
  | none =>
    simp only
    symm
    rw [List.any_eq_false]
    intro e he hid
    obtain ⟨k, hk⟩ := List.getElem?_of_mem he
    have hkl := (List.getElem?_eq_some_iff.1 hk).1
    have h1 : posE l id = l.length := by have := posE_le l id; have := List.getElem?_eq_none_iff.1 hx; omega
    have := takeWhile_in _ l k e (by rw [show (l.takeWhile fun e => decide (e.id < id)).length = posE l id from rfl, h1]; exact hkl) hk
    simp at this hid
    omega
  | some e =>
    simp only
    cases hb : (e.id == id) with
    | true =>
      symm
      rw [List.any_eq_true]
      exact ⟨e, List.mem_of_getElem? hx, hb⟩
    | false =>
      symm
      rw [List.any_eq_false]
      intro f hf hid
      obtain ⟨k, hk⟩ := List.getElem?_of_mem hf
      have he := takeWhile_end _ l e hx
      simp at he hid hb
      rcases Nat.lt_trichotomy k (posE l id) with h3 | h3 | h3
      · have := takeWhile_in _ l k f h3 hk
        simp at this; omega
      · subst h3; rw [hx] at hk; cases hk; omega
      · have := h.get h3 hx hk; omega
/-- Where the first one with the id is; the row's length, where there is none. -/
def fidE (l : List Ev) (id : Int) : Nat := l.findIdx fun e => e.id == id
theorem hasId_iff {l : List Ev} {id : Int} : hasId l id = true ↔ ∃ e ∈ l, e.id = id := by simp [hasId]
theorem fid_pos : ∀ {l : List Ev}, Srt l → ∀ {id : Int}, hasId l id = true → fidE l id = posE l id
  | [], _, id, h => by simp [hasId] at h
  | e :: l, hs, id, h => by
    have hs2 := List.pairwise_cons.1 hs
    unfold fidE posE
    rw [List.findIdx_cons, List.takeWhile_cons]
    by_cases he : e.id = id
    · simp [he]
    · have h2 : hasId l id = true := by
        obtain ⟨x, hx, hxi⟩ := hasId_iff.1 h
        rcases List.mem_cons.1 hx with rfl | hx
        · exact absurd hxi he
        · exact hasId_iff.2 ⟨x, hx, hxi⟩
      obtain ⟨x, hx, hxi⟩ := hasId_iff.1 h2
      have hlt := hs2.1 x hx
      have hd : decide (e.id < id) = true := by simp; omega
      rw [beq_eq_false_iff_ne.2 he, hd]
      have := fid_pos hs2.2 h2
      simp only [fidE, posE] at this
      simp [this]
theorem fid_lt {l : List Ev} {id : Int} (h : hasId l id = true) : fidE l id < l.length := by
  obtain ⟨e, he, hi⟩ := hasId_iff.1 h
  exact List.findIdx_lt_length_of_exists ⟨e, he, by simp [hi]⟩
theorem fid_get {l : List Ev} {id : Int} (h : hasId l id = true) : ∃ e, l[fidE l id]? = some e ∧ e.id = id := by
  have hl := fid_lt h
  refine ⟨l[fidE l id], List.getElem?_eq_getElem hl, ?_⟩
  have : ((l[fidE l id]).id == id) = true := List.findIdx_getElem (p := fun e : Ev => e.id == id) (w := hl)
  simpa using this
theorem fid_none {l : List Ev} {id : Int} (h : hasId l id = false) : fidE l id = l.length := by
  unfold fidE
  rw [List.findIdx_eq_length]
  intro x hx
  have := List.any_eq_false.1 h x hx
  simpa using this
/-! ### depths -/
def dAt (evs : List Ev) (d : List Int) (id : Int) : Int := d.getD (fidE evs id) 0
/-- The depth of an event, out of those that are known; 0: not yet known. -/
def ownD (evs : List Ev) (d : List Int) (e : Ev) : Int := if e.prev.all (fun p => decide (dAt evs d p > 0)) then (e.prev.map (dAt evs d)).foldl (fun a b => if b > a then b else a) 0 + 1 else 0
def stepD (evs : List Ev) (d : List Int) (i : Nat) : List Int := if d.getD i 0 > 0 then d else match evs[i]? with
  | some e => if ownD evs d e > 0 then d.set i (ownD evs d e) else d
  | none => d
def passD (evs : List Ev) (d : List Int) : List Int := (List.range evs.length).foldl (stepD evs) d
def iterD (evs : List Ev) : Nat → List Int → List Int
  | 0, d => d
  | k + 1, d => iterD evs k (passD evs d)
def depthsE (evs : List Ev) : List Int := iterD evs evs.length (List.replicate evs.length 0)
def allPos (d : List Int) : Bool := d.all fun x => !(x == 0)
def grRight (g : Gr) : Bool :=
  isB g.room 1 3 && (rowR g.events g.room 60 && (rowR g.parked g.room 20 && (g.events.all (fun e => allIn g.events e && !hasId g.parked e.id) && (g.parked.all (fun e => !allIn g.events e) && allPos (depthsE g.events)))))
end Go.Gm
end

section
set_option linter.unusedVariables false
set_option linter.unusedSimpArgs false
namespace Go.Gm
def zer (d : List Int) : Nat := d.countP fun x => x == 0
theorem zer_le (d : List Int) : zer d ≤ d.length := List.countP_le_length
theorem zer_set : ∀ {d : List Int} {i : Nat} {x : Int}, d[i]? = some 0 → x ≠ 0 → zer (d.set i x) + 1 = zer d
  | [], i, x, h, _ => by simp at h
  | y :: d, 0, x, h, hx => by
    simp at h; subst h
    simp [zer, List.set_cons_zero, List.countP_cons, hx]
  | y :: d, i + 1, x, h, hx => by
    have := zer_set (d := d) (i := i) (by simpa using h) hx
    simp only [zer, List.set_cons_succ, List.countP_cons] at this ⊢
    omega
theorem zer_rep (n : Nat) : zer (List.replicate n 0) = n := by simp [zer, List.countP_replicate]
theorem allPos_iff {d : List Int} : allPos d = decide (zer d = 0) := by
  rw [Bool.eq_iff_iff]
  simp [allPos, zer, List.countP_eq_zero]
structure OkD (evs : List Ev) (d : List Int) : Prop where
  len : d.length = evs.length
  nn : ∀ x ∈ d, 0 ≤ x
theorem OkD.zero (evs : List Ev) : OkD evs (List.replicate evs.length 0) := ⟨by simp, fun x hx => by rw [List.eq_of_mem_replicate hx]; exact Int.le_refl _⟩
theorem getD_nn {d : List Int} (h : ∀ x ∈ d, 0 ≤ x) (i : Nat) : 0 ≤ d.getD i 0 := by
  rw [List.getD_eq_getElem?_getD]
  cases hx : d[i]? with
  | none => simp
  | some x => exact h x (List.mem_of_getElem? hx)
theorem mem_set_cases {α : Type} {l : List α} {i : Nat} {x y : α} (h : y ∈ l.set i x) : y ∈ l ∨ y = x := List.mem_or_eq_of_mem_set h
theorem foldMax_nn : ∀ (l : List Int) (a : Int), a ≤ l.foldl (fun a b => if b > a then b else a) a
  | [], a => Int.le_refl _
  | b :: l, a => by
    rw [List.foldl_cons]
    by_cases h : b > a
    · rw [if_pos h]; have := foldMax_nn l b; omega
    · rw [if_neg h]; exact foldMax_nn l a
theorem foldMax_succ : ∀ (l : List Int) (a : Int), l.foldl (fun o x => if x + 1 > o then x + 1 else o) (a + 1) = l.foldl (fun a b => if b > a then b else a) a + 1
  | [], a => rfl
  | b :: l, a => by
    rw [List.foldl_cons, List.foldl_cons, ← foldMax_succ l]
    congr 1
    by_cases h : b > a
    · rw [if_pos h, if_pos (by omega)]
    · rw [if_neg h, if_neg (by omega)]
theorem step_ok {evs : List Ev} {d : List Int} (h : OkD evs d) (i : Nat) : OkD evs (stepD evs d i) := by
  unfold stepD
  split
  · exact h
  · split
    · split
      · rename_i hp
        refine ⟨by rw [List.length_set]; exact h.len, fun x hx => ?_⟩
        rcases mem_set_cases hx with hx | hx
        · exact h.nn x hx
        · omega
      · exact h
    · exact h
theorem step_zer {evs : List Ev} {d : List Int} (h : OkD evs d) (i : Nat) : stepD evs d i = d ∨ zer (stepD evs d i) + 1 = zer d := by
  unfold stepD
  split
  · exact .inl rfl
  · rename_i h0
    split
    · rename_i e he
      split
      · rename_i hp
        refine .inr (zer_set ?_ (by omega))
        have hi : i < d.length := by rw [h.len]; exact (List.getElem?_eq_some_iff.1 he).1
        have := getD_nn h.nn i
        have h1 : d.getD i 0 = 0 := by omega
        rw [List.getD_eq_getElem?_getD, List.getElem?_eq_getElem hi] at h1
        rw [List.getElem?_eq_getElem hi]
        simpa using h1
      · exact .inl rfl
    · exact .inl rfl
/-- A pass, up to place k. -/
def passK (evs : List Ev) (d : List Int) (k : Nat) : List Int := (List.range k).foldl (stepD evs) d
theorem passK_zero (evs : List Ev) (d : List Int) : passK evs d 0 = d := rfl
theorem passK_succ (evs : List Ev) (d : List Int) (k : Nat) : passK evs d (k + 1) = stepD evs (passK evs d k) k := by
  unfold passK
  rw [List.range_succ, List.foldl_append]
  rfl
theorem passK_ok {evs : List Ev} {d : List Int} (h : OkD evs d) : ∀ k, OkD evs (passK evs d k)
  | 0 => h
  | k + 1 => by rw [passK_succ]; exact step_ok (passK_ok h k) k
theorem passK_zer {evs : List Ev} {d : List Int} (h : OkD evs d) : ∀ k, passK evs d k = d ∨ zer (passK evs d k) < zer d
  | 0 => .inl rfl
  | k + 1 => by
    rw [passK_succ]
    have h1 := step_zer (passK_ok h k) k
    rcases passK_zer h k with h2 | h2
    · rw [h2] at h1 ⊢
      rcases h1 with h1 | h1
      · exact .inl h1
      · exact .inr (by omega)
    · rcases h1 with h1 | h1
      · rw [h1]; exact .inr h2
      · exact .inr (by omega)
theorem passD_eq (evs : List Ev) (d : List Int) : passD evs d = passK evs d evs.length := rfl
theorem iter_fix {evs : List Ev} {d : List Int} (h : passD evs d = d) : ∀ k, iterD evs k d = d
  | 0 => rfl
  | k + 1 => by rw [iterD, h]; exact iter_fix h k
theorem iter_add (evs : List Ev) : ∀ (j k : Nat) (d : List Int), iterD evs (j + k) d = iterD evs k (iterD evs j d)
  | 0, k, d => by rw [Nat.zero_add]; rfl
  | j + 1, k, d => by rw [show j + 1 + k = (j + k) + 1 by omega, iterD, iter_add evs j k, iterD]
theorem iter_succ (evs : List Ev) (j : Nat) (d : List Int) : iterD evs (j + 1) d = passD evs (iterD evs j d) := by
  rw [iter_add evs j 1]; rfl
theorem iter_ok {evs : List Ev} : ∀ (k : Nat) {d : List Int}, OkD evs d → OkD evs (iterD evs k d)
  | 0, d, h => h
  | k + 1, d, h => by rw [iterD]; exact iter_ok k (passK_ok h _)
theorem depths_ok (evs : List Ev) : OkD evs (depthsE evs) := iter_ok _ (OkD.zero evs)
/-- Where the depths come to rest, they are the depths. -/
theorem depths_of {evs : List Ev} {d : List Int} {j : Nat} (h1 : d = iterD evs j (List.replicate evs.length 0)) (h2 : j + zer d ≤ evs.length) (h3 : passD evs d = d) : depthsE evs = d := by
  unfold depthsE
  rw [show evs.length = j + (evs.length - j) by omega, iter_add, show j + (evs.length - j) = evs.length by omega, ← h1, iter_fix h3]
theorem pass_done {evs : List Ev} {d : List Int} (h : OkD evs d) (hz : zer d = 0) : passD evs d = d := by
  have key : ∀ k, k ≤ evs.length → passK evs d k = d := by
    intro k
    induction k with
    | zero => intro _; rfl
    | succ k ih =>
      intro hk
      rw [passK_succ, ih (by omega)]
      unfold stepD
      rw [if_pos]
      have hi : k < d.length := by rw [h.len]; omega
      have h0 : d[k] ≠ 0 := by
        have := List.countP_eq_zero.1 hz d[k] (List.getElem_mem hi)
        simpa using this
      have := h.nn d[k] (List.getElem_mem hi)
      rw [List.getD_eq_getElem?_getD, List.getElem?_eq_getElem hi]
      simp only [Option.getD_some]
      omega
  exact key _ (Nat.le_refl _)
theorem own_pos {evs : List Ev} {d : List Int} {e : Ev} : (ownD evs d e > 0) ↔ (e.prev.all (fun p => decide (dAt evs d p > 0)) = true) := by
  unfold ownD
  split
  · rename_i h
    have := foldMax_nn (e.prev.map (dAt evs d)) 0
    exact ⟨fun _ => h, fun _ => by omega⟩
  · rename_i h
    exact ⟨fun h2 => absurd h2 (by decide), fun h2 => absurd h2 h⟩
/-- No depth is more than how many are known. -/
def BdD (evs : List Ev) (d : List Int) : Prop := ∀ x ∈ d, x ≤ (evs.length : Int) - zer d
theorem foldMax_le {B : Int} : ∀ (l : List Int) (a : Int), a ≤ B → (∀ x ∈ l, x ≤ B) → l.foldl (fun a b => if b > a then b else a) a ≤ B
  | [], a, h, _ => h
  | b :: l, a, h, hl => by
    rw [List.foldl_cons]
    refine foldMax_le l _ ?_ fun x hx => hl x (List.mem_cons_of_mem _ hx)
    split
    · exact hl b List.mem_cons_self
    · exact h
theorem getD_bd {B : Int} {d : List Int} (h : ∀ x ∈ d, x ≤ B) (hB : 0 ≤ B) (i : Nat) : d.getD i 0 ≤ B := by
  rw [List.getD_eq_getElem?_getD]
  cases hx : d[i]? with
  | none => simpa using hB
  | some x => exact h x (List.mem_of_getElem? hx)
theorem own_le {evs : List Ev} {d : List Int} (h : OkD evs d) (hb : BdD evs d) (e : Ev) : ownD evs d e ≤ (evs.length : Int) - zer d + 1 := by
  have hz := zer_le d
  have hl := h.len
  unfold ownD
  split
  · have := foldMax_le (B := (evs.length : Int) - zer d) (e.prev.map (dAt evs d)) 0 (by omega) (fun x hx => by
      obtain ⟨p, _, rfl⟩ := List.mem_map.1 hx
      exact getD_bd hb (by omega) _)
    omega
  · omega
theorem BdD.zero (evs : List Ev) : BdD evs (List.replicate evs.length 0) := fun x hx => by
  rw [List.eq_of_mem_replicate hx, zer_rep]
  omega
theorem step_bd {evs : List Ev} {d : List Int} (h : OkD evs d) (hb : BdD evs d) (i : Nat) : BdD evs (stepD evs d i) := by
  have hs := step_zer h i
  unfold stepD at hs ⊢
  split
  · exact hb
  · rename_i h0
    rw [if_neg h0] at hs
    split
    · rename_i e he
      rw [he] at hs
      simp only at hs
      split
      · rename_i hp
        rw [if_pos hp] at hs
        have hz : zer (d.set i (ownD evs d e)) + 1 = zer d := by
          rcases hs with hs | hs
          · exfalso
            have hi : i < d.length := by rw [h.len]; exact (List.getElem?_eq_some_iff.1 he).1
            have h1 : (d.set i (ownD evs d e)).getD i 0 = ownD evs d e := by simp [List.getD_eq_getElem?_getD, hi]
            rw [hs] at h1
            omega
          · exact hs
        intro x hx
        have := own_le h hb e
        rcases mem_set_cases hx with hx | hx
        · have := hb x hx; omega
        · omega
      · exact hb
    · exact hb
theorem passK_bd {evs : List Ev} {d : List Int} (h : OkD evs d) (hb : BdD evs d) : ∀ k, BdD evs (passK evs d k)
  | 0 => hb
  | k + 1 => by rw [passK_succ]; exact step_bd (passK_ok h k) (passK_bd h hb k) k
/-- The depth of an event, reckoned from its j-th forerunner on. -/
theorem ownD_fold (evs : List Ev) (d : List Int) (e : Ev) : ownD evs d e = if e.prev.all (fun p => decide (dAt evs d p > 0)) then e.prev.foldl (fun o p => if dAt evs d p + 1 > o then dAt evs d p + 1 else o) 1 else 0 := by
  unfold ownD
  split
  · rw [← foldMax_succ, List.foldl_map]; rfl
  · rfl
theorem dAt_get {evs : List Ev} {d : List Int} (hs : Srt evs) (h : OkD evs d) {p : Int} (hp : hasId evs p = true) : d[posE evs p]? = some (dAt evs d p) := by
  have h1 := fid_pos hs hp
  have h2 := fid_lt hp
  have h3 : fidE evs p < d.length := by rw [h.len]; exact h2
  unfold dAt
  rw [← h1, List.getElem?_eq_getElem h3, List.getD_eq_getElem?_getD, List.getElem?_eq_getElem h3]
  rfl
end Go.Gm
end

section
set_option linter.unusedVariables false
set_option linter.unusedSimpArgs false
namespace Go.Gm
/-- A strict order, on the elements of a list. -/
structure Str {α : Type} (T : α → α → Prop) : Prop where
  irr : ∀ x, ¬ T x x
  tr : ∀ x y z, T x y → T y z → T x z
theorem sorted_one {α : Type} {T : α → α → Prop} (h : Str T) : ∀ {l1 l2 : List α}, l1.Perm l2 → l1.Pairwise T → l2.Pairwise T → l1 = l2
  | [], l2, hp, _, _ => by rw [List.Perm.nil_eq hp]
  | x :: l1, [], hp, _, _ => by have := hp.length_eq; simp at this
  | x :: l1, y :: l2, hp, h1, h2 => by
    have a1 := List.pairwise_cons.1 h1
    have a2 := List.pairwise_cons.1 h2
    have hxy : x = y := by
      have hx : x ∈ y :: l2 := hp.subset List.mem_cons_self
      have hy : y ∈ x :: l1 := hp.symm.subset List.mem_cons_self
      rcases List.mem_cons.1 hx with h3 | h3
      · exact h3
      · rcases List.mem_cons.1 hy with h4 | h4
        · exact h4.symm
        · exact absurd (h.tr _ _ _ (a2.1 x h3) (a1.1 y h4)) (h.irr y)
    subst hxy
    rw [sorted_one h (List.perm_cons x |>.1 hp) a1.2 a2.2]
/-- Two sorted parts, cut where they fit, come to the two sorted halves. -/
theorem halves {α : Type} {T : α → α → Prop} (h : Str T) {L1 L2 R1 R2 Y1 Y2 : List α} (hL : (L1 ++ L2).Pairwise T) (hR : (R1 ++ R2).Pairwise T)
    (c1 : ∀ x ∈ L1, ∀ y ∈ R2, T x y) (c2 : ∀ x ∈ R1, ∀ y ∈ L2, T x y) (p1 : Y1.Perm (L1 ++ R1)) (p2 : Y2.Perm (L2 ++ R2)) (s1 : Y1.Pairwise T) (s2 : Y2.Pairwise T) :
    (Y1 ++ Y2).Pairwise T ∧ (Y1 ++ Y2).Perm ((L1 ++ L2) ++ (R1 ++ R2)) := by
  constructor
  · refine List.pairwise_append.2 ⟨s1, s2, fun x hx y hy => ?_⟩
    have hx := p1.subset hx
    have hy := p2.subset hy
    rcases List.mem_append.1 hx with hx | hx <;> rcases List.mem_append.1 hy with hy | hy
    · exact (List.pairwise_append.1 hL).2.2 x hx y hy
    · exact c1 x hx y hy
    · exact c2 x hx y hy
    · exact (List.pairwise_append.1 hR).2.2 x hx y hy
  · refine (p1.append p2).trans ?_
    have e1 : ((L1 ++ R1) ++ (L2 ++ R2)).Perm (L1 ++ (L2 ++ (R1 ++ R2))) := by
      rw [List.append_assoc]
      refine List.Perm.append_left L1 ?_
      rw [← List.append_assoc, ← List.append_assoc]
      exact List.Perm.append_right R2 List.perm_append_comm
    simpa only [List.append_assoc] using e1
end Go.Gm
end
