/- Sorting in place, stable: merging, the general case. Conditions: lengths that fit a machine. -/
import Derived.Test.YtkcllejnmpnjfaaH3
namespace Go.Proofs.Ytkcllejnmpnjfaa
open Go.Pm
open Go.Gm (LtD ltD StD srtD)
set_option maxRecDepth 10000
set_option linter.unusedSimpArgs false
set_option linter.unusedVariables false
set_option maxHeartbeats 4000000
/-- An alternative, not to be looked into. -/
def OrH (p q : Prop) : Prop := p ∨ q
theorem OrH.el {p q r : Prop} (h : OrH p q) (h1 : p → r) (h2 : q → r) : r := Or.elim h h1 h2
theorem orH {p q : Prop} (h : p ∨ q) : OrH p q := h
/-- Facts that are not to be looked into. -/
structure Lin (p : Prop) : Prop where
  h : p
theorem sym_start {a b m mid nn x y : Nat} (e2 : m = a + x) (e3 : b = m + y) (hmid : mid = (a + b) / 2) (hnn : nn = mid + m) (l2 : 2 ≤ x) (r2 : 2 ≤ y) :
    ∃ lo hi pp, nn = pp + 1 ∧ a ≤ lo ∧ lo ≤ hi ∧ hi ≤ m ∧ hi ≤ mid ∧ mid ≤ lo + y ∧ OrH (lo = a) (mid = lo + y) ∧ OrH (hi = m) (hi = mid) ∧ OrH (mid < m ∧ nn = b + lo ∧ hi = mid) (¬ mid < m ∧ lo = a ∧ hi = m) := by
  by_cases h : mid < m
  · exact ⟨nn - b, mid, nn - 1, by omega, by omega, by omega, by omega, by omega, by omega, orH (by omega), orH (by omega), .inl ⟨h, by omega, rfl⟩⟩
  · exact ⟨a, m, nn - 1, by omega, by omega, by omega, by omega, by omega, by omega, orH (by omega), orH (by omega), .inr ⟨h, rfl, rfl⟩⟩
/-- Where the search stands. -/
structure SI (d : Int → Int) (L R : List Int) (a mid lo hi i j : Nat) : Prop where
  h1 : lo ≤ i
  h2 : i ≤ j
  h3 : j ≤ hi
  p1 : i = lo ∨ ∃ x y, L[i - 1 - a]? = some x ∧ R[mid - i]? = some y ∧ LtD d x y
  p2 : j = hi ∨ ∃ x y, L[j - a]? = some x ∧ R[mid - 1 - j]? = some y ∧ LtD d y x
theorem sym_probe {P : Program} {d : Int → Int} {c : FuncId} {dl l l' : List Int} {n a m b : Nat} {A L R B : List Int} (g : MG P d c dl l l' n a m b A L R B) {mid nn pp lo hi i j : Nat}
    (hmid : mid = (a + b) / 2) (hnn : nn = mid + m) (hpp : nn = pp + 1) (f1 : a ≤ lo) (f3 : hi ≤ m) (f4 : hi ≤ mid) (f5 : mid ≤ lo + R.length) (hs : SI d L R a mid lo hi i j) (hij : i < j) :
    ∃ (k v : Nat) (x y : Int), IntKind.i64.wrap ((IntKind.u64.wrap (IntKind.i64.wrap ((i : Int) + (j : Int)))).fdiv (2 ^ min 1 IntKind.u64.bits)) = (k : Int) ∧ IntKind.i64.wrap ((k : Int) + 1) = ((k + 1 : Nat) : Int) ∧ IntKind.i64.wrap ((pp : Int) - (k : Int)) = (v : Int) ∧
      l[k]? = some x ∧ l[v]? = some y ∧ x ∈ L ∧ y ∈ R ∧ (0 : Int) ≤ k ∧ (k : Int) < n ∧ (0 : Int) ≤ v ∧ (v : Int) < n ∧ k - i < j - i ∧ j - (k + 1) < j - i ∧ (LtD d y x → SI d L R a mid lo hi i k) ∧ (¬ LtD d y x → SI d L R a mid lo hi (k + 1) j) := by
  obtain ⟨h1, h2, h3, p1, p2⟩ := hs
  have bn := g.bn
  have e1 := g.ha
  have e2 := g.hm
  have e3 := g.hb
  have e4 := g.hlt
  obtain ⟨k, hk⟩ : ∃ k, k = (i + j) / 2 := ⟨_, rfl⟩
  have k1 : i ≤ k := by clear p1 p2; omega
  have k2 : k < j := by clear p1 p2; omega
  obtain ⟨v, hv⟩ : ∃ v, pp = k + v := ⟨pp - k, by clear p1 p2; omega⟩
  obtain ⟨s, hs⟩ : ∃ s, k = a + s := ⟨k - a, by clear p1 p2; omega⟩
  obtain ⟨t, ht⟩ : ∃ t, mid = k + 1 + t := ⟨mid - 1 - k, by clear p1 p2; omega⟩
  have s1 : s < L.length := by clear p1 p2; omega
  have t1 : t < R.length := by clear p1 p2; omega
  have v1 : v = m + t := by clear p1 p2; omega
  obtain ⟨x, hx⟩ : ∃ x, L[s]? = some x := ⟨_, List.getElem?_eq_getElem s1⟩
  obtain ⟨y, hy⟩ : ∃ y, R[t]? = some y := ⟨_, List.getElem?_eq_getElem t1⟩
  have hxL : x ∈ L := List.mem_of_getElem? hx
  have hyR : y ∈ R := List.mem_of_getElem? hy
  have hne : y ≠ x := fun e => by
    have hnd := g.hs.nodup
    rw [List.nodup_append] at hnd
    exact hnd.2.2 x hxL y hyR e.symm
  refine ⟨k, v, x, y, by rw [hk]; exact mid_at i j (by clear p1 p2; omega), wadd1 k (by clear p1 p2; omega), ?_, ?_, ?_, hxL, hyR, by clear p1 p2; omega, by clear p1 p2; omega, by clear p1 p2; omega, by clear p1 p2; omega, by clear p1 p2; omega, by clear p1 p2; omega, fun h => ⟨h1, k1, by clear p1 p2; omega, p1, .inr ⟨x, y, ?_, ?_, h⟩⟩, fun h => ⟨by clear p1 p2; omega, k2, h3, .inr ⟨x, y, ?_, ?_, Gm.ltD_tot hne h⟩, p2⟩⟩
  · rw [wsub pp k (by clear p1 p2; omega) (by clear p1 p2; omega)]; congr 1; clear p1 p2; omega
  · rw [g.h, List.getElem?_append_right (by clear p1 p2; omega), List.getElem?_append_left (by clear p1 p2; omega), ← hx]; congr 1; clear p1 p2; omega
  · rw [g.h, List.getElem?_append_right (by clear p1 p2; omega), List.getElem?_append_right (by clear p1 p2; omega), List.getElem?_append_left (by clear p1 p2; omega), ← hy]; congr 1; clear p1 p2; omega
  · rw [← hx]; congr 1; clear p1 p2; omega
  · rw [← hy]; congr 1; clear p1 p2; omega
  · rw [← hx]; congr 1; clear p1 p2; omega
  · rw [← hy]; congr 1; clear p1 p2; omega
section
variable {P : Program} [Is P]
/-- What is left to do when the search is done. -/
structure SP (P : Program) (c : FuncId) (dl l l' : List Int) (n a m b mid i en x y u t : Nat) (z0 z1 : List Int) : Prop where
  rot : u < x → 0 < t → LCon P 282 [.ar 0 0 n, .int .i64 i, .int .i64 m, .int .i64 en, .fn c [] [.fptr [.sl 1 (dl.map encI)] 0]] [.arr true 1 (l.map encI)] (.tup []) [.arr true 1 (z0.map encI)]
  rec1 : 0 < u → 0 < t → LCon P 258 [.ar 0 0 n, .int .i64 a, .int .i64 i, .int .i64 mid, .fn c [] [.fptr [.sl 1 (dl.map encI)] 0]] [.arr true 1 (z0.map encI)] (.tup []) [.arr true 1 (z1.map encI)]
  rec2 : u < x → t < y → LCon P 258 [.ar 0 0 n, .int .i64 mid, .int .i64 en, .int .i64 b, .fn c [] [.fptr [.sl 1 (dl.map encI)] 0]] [.arr true 1 (z1.map encI)] (.tup []) [.arr true 1 (l'.map encI)]
  no0 : ¬ (u < x ∧ 0 < t) → l = z0
  no1 : ¬ (0 < u ∧ 0 < t) → z0 = z1
  no2 : ¬ (u < x ∧ t < y) → z1 = l'
  c1 : decide ((i : Int) < (m : Int)) = decide (u < x)
  c2 : decide ((m : Int) < (en : Int)) = decide (0 < t)
  c3 : decide ((a : Int) < (i : Int)) = decide (0 < u)
  c4 : decide ((i : Int) < (mid : Int)) = decide (0 < t)
  c5 : decide ((mid : Int) < (en : Int)) = decide (u < x)
  c6 : decide ((en : Int) < (b : Int)) = decide (t < y)
theorem dec_of {p q : Prop} [Decidable p] [Decidable q] (h : p ↔ q) : decide p = decide q := by
  by_cases hq : q
  · rw [decide_eq_true hq, decide_eq_true (h.2 hq)]
  · rw [decide_eq_false hq, decide_eq_false (fun hp => hq (h.1 hp))]
theorem sym_parts {d : Int → Int} {c : FuncId} {dl l l' : List Int} {n a m b : Nat} {A L R B : List Int} (g : MG P d c dl l l' n a m b A L R B)
    (IH : ∀ {l l' : List Int} {n a m b : Nat} {A L' R' B : List Int}, L'.length + R'.length < L.length + R.length → MG P d c dl l l' n a m b A L' R' B → LCon P 258 [.ar 0 0 n, .int .i64 a, .int .i64 m, .int .i64 b, .fn c [] [.fptr [.sl 1 (dl.map encI)] 0]] [.arr true 1 (l.map encI)] (.tup []) [.arr true 1 (l'.map encI)])
    {mid i en u t : Nat} (hi : i = a + u) (hm : mid = i + t) (he : en = m + t) (hu : u ≤ L.length) (ht : t ≤ R.length) (h1 : 0 < u + t) (h2 : u + t < L.length + R.length)
    (mg : srtD d (L.take u ++ R.take t) ++ srtD d (L.drop u ++ R.drop t) = srtD d (L ++ R)) : ∃ z0 z1, SP P c dl l l' n a m b mid i en L.length R.length u t z0 z1 := by
  have bn := g.bn
  have e1 := g.ha
  have e2 := g.hm
  have e3 := g.hb
  have e4 := g.hlt
  have lu : (L.take u).length = u := by rw [List.length_take]; omega
  have lt : (R.take t).length = t := by rw [List.length_take]; omega
  have ld : (L.drop u).length + u = L.length := by rw [List.length_drop]; omega
  have le : (R.drop t).length + t = R.length := by rw [List.length_drop]; omega
  have tL : L.take u ++ L.drop u = L := List.take_append_drop u L
  have tR : R.take t ++ R.drop t = R := List.take_append_drop t R
  obtain ⟨z0, hz0⟩ : ∃ z, z = A ++ (L.take u ++ (R.take t ++ (L.drop u ++ (R.drop t ++ B)))) := ⟨_, rfl⟩
  obtain ⟨z1, hz1⟩ : ∃ z, z = A ++ (srtD d (L.take u ++ R.take t) ++ (L.drop u ++ (R.drop t ++ B))) := ⟨_, rfl⟩
  have hl2 : l = (A ++ L.take u) ++ (L.drop u ++ (R.take t ++ (R.drop t ++ B))) := by
    rw [g.h]
    conv => lhs; rw [← tL, ← tR]
    simp only [List.append_assoc]
  have hl3 : l' = (A ++ srtD d (L.take u ++ R.take t)) ++ (srtD d (L.drop u ++ R.drop t) ++ B) := by rw [g.h', ← mg]; simp only [List.append_assoc]
  have n0 : n = z0.length := by rw [hz0, g.hn, hl2]; simp only [List.length_append]; omega
  have n1 : n = z1.length := by rw [hz1, n0, hz0]; simp only [List.length_append, Gm.srtD_len]; omega
  have sub1 : (L.take u ++ R.take t).Sublist (L ++ R) := List.Sublist.append (List.take_sublist u L) (List.take_sublist t R)
  have sub2 : (L.drop u ++ R.drop t).Sublist (L ++ R) := List.Sublist.append (List.drop_sublist u L) (List.drop_sublist t R)
  have nil1 : ¬ u < L.length → L.drop u = [] := fun h => List.drop_eq_nil_of_le (by omega)
  have nil2 : ¬ 0 < t → R.take t = [] := fun h => by rw [show t = 0 by omega]; rfl
  have nil3 : ¬ 0 < u → L.take u = [] := fun h => by rw [show u = 0 by omega]; rfl
  have nil4 : ¬ t < R.length → R.drop t = [] := fun h => List.drop_eq_nil_of_le (by omega)
  have si1 : srtD d (L.take u) = L.take u := Gm.srtD_id (g.hL.sublist (List.take_sublist _ _))
  have si2 : srtD d (R.take t) = R.take t := Gm.srtD_id (g.hR.sublist (List.take_sublist _ _))
  have si3 : srtD d (L.drop u) = L.drop u := Gm.srtD_id (g.hL.sublist (List.drop_sublist _ _))
  have si4 : srtD d (R.drop t) = R.drop t := Gm.srtD_id (g.hR.sublist (List.drop_sublist _ _))
  refine ⟨z0, z1, fun r1 r2 => ?_, fun r1 r2 => ?_, fun r1 r2 => ?_, fun h => ?_, fun h => ?_, fun h => ?_, dec_of ?_, dec_of ?_, dec_of ?_, dec_of ?_, dec_of ?_, dec_of ?_⟩
  · exact n_rotate c dl hl2 (by rw [hz0]; simp only [List.append_assoc]) (by rw [List.length_append]; omega) (by omega) (by omega) (fun e => by rw [e] at ld; simp only [List.length_nil] at ld; omega) (fun e => by rw [e] at lt; simp only [List.length_nil] at lt; omega) g.hn e4
  · exact IH (L' := L.take u) (R' := R.take t) (by omega) ⟨hz0, hz1, e1, by omega, by omega, by omega, by omega, g.hL.sublist (List.take_sublist _ _), g.hR.sublist (List.take_sublist _ _), g.hs.sub sub1, fun x hx y hy => g.hc x (sub1.subset hx) y (sub1.subset hy), n0, e4⟩
  · exact IH (A := A ++ srtD d (L.take u ++ R.take t)) (L' := L.drop u) (R' := R.drop t) (B := B) (by omega) ⟨by rw [hz1]; simp only [List.append_assoc], hl3, by rw [List.length_append, Gm.srtD_len, List.length_append]; omega, by omega, by omega, by omega, by omega, g.hL.sublist (List.drop_sublist _ _), g.hR.sublist (List.drop_sublist _ _), g.hs.sub sub2, fun x hx y hy => g.hc x (sub2.subset hx) y (sub2.subset hy), n1, e4⟩
  · rw [hl2, hz0]
    by_cases h5 : u < L.length
    · rw [nil2 fun h6 => h ⟨h5, h6⟩]
      simp only [List.append_assoc, List.nil_append]
    · rw [nil1 h5]
      simp only [List.append_assoc, List.nil_append]
  · rw [hz0, hz1]
    by_cases h5 : 0 < u
    · rw [nil2 fun h6 => h ⟨h5, h6⟩, List.append_nil, si1, List.nil_append]
    · rw [nil3 h5, List.nil_append, List.nil_append, si2]
  · rw [hz1, hl3]
    by_cases h5 : u < L.length
    · rw [nil4 fun h6 => h ⟨h5, h6⟩, List.append_nil, si3]
      simp only [List.append_assoc, List.nil_append]
    · rw [nil1 h5]
      simp only [List.nil_append]
      rw [si4]
      simp only [List.append_assoc]
  all_goals (rw [Int.ofNat_lt]; omega)
theorem sym_done {d : Int → Int} {c : FuncId} {dl l l' : List Int} {n a m b : Nat} {A L R B : List Int} (g : MG P d c dl l l' n a m b A L R B)
    (IH : ∀ {l l' : List Int} {n a m b : Nat} {A L' R' B : List Int}, L'.length + R'.length < L.length + R.length → MG P d c dl l l' n a m b A L' R' B → LCon P 258 [.ar 0 0 n, .int .i64 a, .int .i64 m, .int .i64 b, .fn c [] [.fptr [.sl 1 (dl.map encI)] 0]] [.arr true 1 (l.map encI)] (.tup []) [.arr true 1 (l'.map encI)])
    {mid nn lo hi i : Nat} (hmid : mid = (a + b) / 2) (hnn : nn = mid + m) (l2 : 2 ≤ L.length) (r2 : 2 ≤ R.length) (f1 : a ≤ lo) (f3 : hi ≤ m) (f4 : hi ≤ mid) (f5 : mid ≤ lo + R.length) (f6 : OrH (lo = a) (mid = lo + R.length)) (f7 : OrH (hi = m) (hi = mid)) (hs : SI d L R a mid lo hi i i) :
    ∃ (en u t : Nat) (z0 z1 : List Int), IntKind.i64.wrap ((nn : Int) - (i : Int)) = (en : Int) ∧ SP P c dl l l' n a m b mid i en L.length R.length u t z0 z1 := by
  obtain ⟨h1, h2, h3, p1, p2⟩ := hs
  have bn := g.bn
  have e2 := g.hm
  have e3 := g.hb
  have e4 := g.hlt
  obtain ⟨u, hu⟩ : ∃ u, i = a + u := ⟨i - a, by clear p1 p2; omega⟩
  obtain ⟨t, ht⟩ : ∃ t, mid = i + t := ⟨mid - i, by clear p1 p2; omega⟩
  have mg := Gm.merged g.hL g.hR (s := u) (t := t) g.hs
    (p1.elim (fun h => f6.el (fun h5 => .inl (by clear p2; omega)) fun h5 => .inr (.inl (by clear p2; omega))) fun ⟨x, y, h3, h4, h5⟩ => .inr (.inr ⟨x, y, by rw [← h3]; congr 1; clear p2; omega, by rw [← h4]; congr 1; clear p2; omega, h5⟩))
    (p2.elim (fun h => f7.el (fun h5 => .inl (by clear p1; omega)) fun h5 => .inr (.inl (by clear p1; omega))) fun ⟨x, y, h3, h4, h5⟩ => .inr (.inr ⟨x, y, by rw [← h3]; congr 1; clear p1; omega, by rw [← h4]; congr 1; clear p1; omega, h5⟩))
  clear p1 p2
  obtain ⟨z0, z1, h⟩ := sym_parts g IH (mid := mid) (i := i) (en := m + t) hu ht rfl (by omega) (by omega) (by omega) (by omega) mg
  exact ⟨m + t, u, t, z0, z1, by rw [wsub nn i (by omega) (by omega)]; congr 1; omega, h⟩
end
end Go.Proofs.Ytkcllejnmpnjfaa
