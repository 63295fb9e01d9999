/- The abstract machine: make, conversions of bytes, calls. -/
import Derived.Test.YtkdaijcdddomjaaPm9
import Derived.Laws.MakeOwn
import Derived.Laws.BytesString
set_option linter.unusedVariables false
set_option linter.unusedSimpArgs false
namespace Go.Pm
open Go.RowKit

section
variable {P : Program} {o : Oper} {ev : Operand → V} {mT : List Ob} {base : Nat} {K : V → List Ob → Prop}
theorem RVs_replicate {c : Cx} {zs : List V} {us : List Value} (h : RVs c zs us) : ∀ n, RVs c (List.replicate n zs).flatten (List.replicate n us).flatten
  | 0 => rfl
  | n + 1 => by
    simp only [List.replicate_succ, List.flatten_cons]
    exact h.append (RVs_replicate h n)
theorem madeCells_list (z : Array Value) (sz n : Nat) (hz : z.size = sz) (hs : 0 < sz) : (madeCells z (n * sz)).toList = (List.replicate n z.toList).flatten := by
  apply List.ext_getElem?
  intro j
  have hl : (List.replicate n z.toList).flatten.length = n * sz := by rw [flatten_len (sz := sz) (by intro x hx; rw [List.eq_of_mem_replicate hx]; simpa using hz)]; simp
  rcases Nat.lt_or_ge j (n * sz) with hj | hj
  · have h1 : (madeCells z (n * sz)).toList[j]? = some z[j % z.size]! := by
      simp [madeCells, hj]
    rw [h1]
    have key : ∀ (n j : Nat), j < n * sz → (List.replicate n z.toList).flatten[j]? = some z[j % z.size]! := by
      intro n
      induction n with
      | zero => intro j hj; simp at hj
      | succ n ih =>
        intro j hj
        simp only [List.replicate_succ, List.flatten_cons]
        rcases Nat.lt_or_ge j sz with h | h
        · rw [List.getElem?_append_left (by simpa [hz] using h)]
          rw [hz, Nat.mod_eq_of_lt h]
          have : j < z.size := by omega
          simp [this]
        · rw [List.getElem?_append_right (by simpa [hz] using h)]
          have hlen : z.toList.length = sz := by simpa using hz
          rw [hlen, ih (j - sz) (by rw [Nat.add_mul, Nat.one_mul] at hj; omega)]
          congr 2
          rw [hz]
          exact (Nat.mod_eq_sub_mod h).symm
    exact (key n j hj).symm
  · rw [List.getElem?_eq_none (by simp [madeCells]; omega), List.getElem?_eq_none (by omega)]
theorem q_makeSlice {t e : TypeId} {sz : Nat} {ag : Bool} {x y : Operand} {zs : List V} {k k' : IntKind} {n : Int} (ho : o.op = .makeSlice t x y) (he : elt P t = some e) (hl : lay P e = some (sz, ag)) (hs : 0 < sz) (hz : zer P e = some zs) (hzs : zs.length = sz) (hx' : ev x = .int k n) (hy' : ev y = .int k' n) (h0 : 0 ≤ n) (hn : n * P.bytesOf e ≤ 2 ^ 47) (hn2 : n ≤ 2 ^ 47)
    (h : K (.ar base 0 n.toNat) [.arr true sz (List.replicate n.toNat zs)]) : Goal P o ev mT base K := by
  obtain ⟨i, z, hi, hz', rfl⟩ := zer_out hz
  have hsz : z.cells.size = sz := by simpa using hzs
  refine q_newarr (e := e) hs (fun x hx => by rw [List.eq_of_mem_replicate hx]; exact hzs) (by simp) (fun w Zo m β a M A hx => ?_) h
  have hv := hx x (by rw [ho]; simp [Op.operands])
  have hw := hx y (by rw [ho]; simp [Op.operands])
  rw [hx'] at hv
  rw [hy'] at hw
  obtain ⟨i', d, g1, g2, g3, g4⟩ := lay_info hl
  rw [hi] at g1; cases g1
  have hb : (i.bytes : Int) * n ≤ 281474976710656 := by
    have : P.bytesOf e = i.bytes := by simp [Program.bytesOf, hi]
    rw [this] at hn
    rw [Int.mul_comm]
    omega
  have hr := run_make (P := P) w t e i z (elt_out he) hi hz' k k' n n h0 (Int.le_refl _) hb (by omega)
  refine ⟨madeCells z.cells (n.toNat * i.size), n.toNat, (0, 0), w, ?_, Grow.refl w, rfl, Nat.le_refl _, by omega, by rw [size_madeCells, g3], NoFr.zero _, ?_⟩
  · simp only [execOp, ho]
    rw [show a.eval x = .int k n from hv, show a.eval y = .int k' n from hw, Sem.run_bind, hr]
    rfl
  · rw [g3, madeCells_list z.cells sz n.toNat hsz hs]
    rw [List.take_of_length_le (by rw [flatten_len (sz := sz) (by intro x hx; rw [List.eq_of_mem_replicate hx]; simpa using hsz)]; simp)]
    exact RVs_replicate (RVs_ofVal1 _ _) _
theorem q_makeMap {t : TypeId} {r : Option Operand} (ho : o.op = .makeMap t r) (hr : r = none ∨ ∃ k n kt et, r = some (.const (.int k n)) ∧ P.underlying t = some (.map kt et)) (h : K (.map base) [.mp true [] []]) : Goal P o ev mT base K := by
  refine ⟨_, _, QS.new1 fun w Zo m β a M A hx => ?_, h⟩
  refine ⟨.map (some w.heap.size), w.alloc (.map #[] 0), ⟨w.heap.size, 0⟩, ?_, Grow.alloc w _, fun b hb => by simp [Ob.blk] at hb; omega, ?_⟩
  · rcases hr with rfl | ⟨k, n, kt, et, rfl, hu⟩
    · simp [execOp, ho, Instr.makeMap]
    · simp [execOp, ho, Instr.makeMap, run_und hu, asInt, asIntOf, Act.eval]
  · intro c' hle hw hm hβ hob
    refine ⟨⟨#[], 0, by rw [hw]; exact heap_new w _, rfl, rfl, .inl rfl⟩, ?_⟩
    unfold RV
    rw [hob, hβ]

/-- A slice's elements. -/
def elemsV (m : List Ob) : V → Option (List (List V))
  | .sl _ xs => some xs
  | .nil => some []
  | .e0 => some []
  | .ar q off len => match m[q]? with
    | some (.arr _ _ xs) => some ((xs.drop off).take len)
    | _ => none
  | .arc q off len _ => match m[q]? with
    | some (.arr _ _ xs) => some ((xs.drop off).take len)
    | _ => none
  | _ => none
def szV (m : List Ob) : V → Option Nat
  | .sl sz _ => some sz
  | .ar q _ _ => match m[q]? with
    | some (.arr _ sz _) => some sz
    | _ => none
  | .arc q _ _ _ => match m[q]? with
    | some (.arr _ sz _) => some sz
    | _ => none
  | _ => none
/-- What a slice's value is. -/
theorem elems_at {w : World} {Zo : Nat → Prop} {m : List Ob} {β : List Lc} (M : Mem w Zo m β) (A : Agree mT m) {x : V} {v : Value} {xs : List (List V)} (h : elemsV mT x = some xs) (hv : RV (cx w Zo m β) x v) :
    ∃ A' cp, v = .slice A' xs.length cp ∧ xs.length ≤ cp ∧ xs.length < 2 ^ 63 ∧ (xs = [] ∨ ∃ sz b p, szV mT x = some sz ∧ A' = some ⟨b, p, none⟩ ∧ RR (cx w Zo m β) sz b p xs) := by
  cases x <;> simp only [elemsV, reduceCtorEq] at h
  case nil =>
    simp only [Option.some.injEq] at h; subst h
    exact ⟨none, 0, hv, Nat.le_refl _, by simp, .inl rfl⟩
  case e0 =>
    simp only [Option.some.injEq] at h; subst h
    obtain ⟨A', e1⟩ := hv
    exact ⟨A', 0, e1, Nat.le_refl _, by simp, .inl rfl⟩
  case sl sz ys =>
    simp only [Option.some.injEq] at h; subst h
    obtain ⟨A', cp, e1, g1, g2, g3⟩ := hv
    refine ⟨A', cp, e1, g1, g2, g3.imp id ?_⟩
    rintro ⟨b, p, rfl, hf, hr⟩
    exact ⟨sz, b, p, rfl, rfl, hr⟩
  case ar q off len =>
    split at h
    · rename_i lv sz ys hT
      simp only [Option.some.injEq] at h; subst h
      obtain ⟨hm, l, hβ, ⟨g1, g2, g3, g4⟩, g5, A', e1, g6⟩ := at_ar M A hT hv
      have hlen : ((ys.drop off).take len).length = len := by rw [List.length_take, List.length_drop]; omega
      refine ⟨A', l.cap - off, by rw [hlen]; exact e1, by rw [hlen]; omega, by rw [hlen]; omega, ?_⟩
      by_cases h0 : len = 0
      · exact .inl (List.eq_nil_of_length_eq_zero (by rw [hlen]; exact h0))
      · rcases g4 with g4 | ⟨us, e, fr, _, _, _, hrr, _⟩
        · omega
        · refine .inr ⟨sz, l.b, off * sz, ?_, g6 (by omega), ?_⟩
          · simp [szV, hT]
          · have := (hrr.drop off).take len
            rwa [Nat.zero_add] at this
    · cases h
  case arc q off len cap =>
    split at h
    · rename_i lv sz ys hT
      simp only [Option.some.injEq] at h; subst h
      obtain ⟨hm, l, hβ, ⟨g1, g2, g3, g4⟩, g5, A', e1, g6⟩ := at_ar M A hT (RV_arc hv)
      have hlen : ((ys.drop off).take len).length = len := by rw [List.length_take, List.length_drop]; omega
      refine ⟨A', l.cap - off, by rw [hlen]; exact e1, by rw [hlen]; omega, by rw [hlen]; omega, ?_⟩
      by_cases h0 : len = 0
      · exact .inl (List.eq_nil_of_length_eq_zero (by rw [hlen]; exact h0))
      · rcases g4 with g4 | ⟨us, e, fr, _, _, _, hrr, _⟩
        · omega
        · refine .inr ⟨sz, l.b, off * sz, ?_, g6 (by omega), ?_⟩
          · simp [szV, hT]
          · have := (hrr.drop off).take len
            rwa [Nat.zero_add] at this
    · cases h
/-- The string of some bytes. -/
def strOf (ns : List Int) : ByteArray := ns.foldl (fun r n => r.push (UInt8.ofNat n.toNat)) ByteArray.empty
theorem RVs_ints {c : Cx} {k : IntKind} : ∀ {ns : List Int} {us : List Value}, RVs c (ns.map (V.int k)) us → us = ns.map (Value.int k)
  | [], us, h => h
  | n :: ns, us, ⟨u, us', e, h1, h2⟩ => by rw [e, show u = .int k n from h1, RVs_ints h2]; rfl
theorem q_bytesStr {src dst e : TypeId} {x : Operand} {ns : List Int} (ho : o.op = .convert src dst x) (he : elt P src = some e) (hu : intT P e = some .u8) (hd : isStrT P dst = true) (hx' : elemsV mT (ev x) = some (ns.map fun n => [.int .u8 n])) (h : K (.str (strOf ns)) []) : Goal P o ev mT base K := by
  refine ⟨_, _, QS.value fun w Zo m β a M A hx => ?_, h⟩
  have hv := hx x (by rw [ho]; simp [Op.operands])
  have hd' : P.underlying dst = some .string := by
    unfold isStrT at hd
    split at hd
    · assumption
    · cases hd
  have hu' : P.underlying e = some (.int .u8) := by
    unfold intT at hu
    split at hu
    · rename_i k2 h2; simp at hu; subst hu; exact h2
    · cases hu
  obtain ⟨A', cp, e1, g1, g2, g3⟩ := elems_at M A hx' hv
  refine ⟨.string (strOf ns), ?_, rfl⟩
  simp only [execOp, ho]
  rw [e1, Sem.run_bind, run_convert_bytes_string w src dst e A' _ cp (elt_out he) hu' hd']
  have hfl : ∀ ns : List Int, (ns.map fun n => [V.int .u8 n]).flatten = ns.map (V.int .u8) := by
    intro ns
    induction ns with
    | nil => rfl
    | cons n ns ih => simp [ih]
  have key : (Conv.bytesToString (.slice A' (ns.map fun n => [V.int .u8 n]).length cp)).run P w = .ok (.string (strOf ns)) w := by
    cases A' with
    | none =>
      rcases g3 with g3 | ⟨sz, b, p, _, g3, _⟩
      · have : ns = [] := by simpa using g3
        subst this
        rfl
      · cases g3
    | some ad =>
      refine run_bytesToString w ad _ cp ns ?_
      rcases g3 with g3 | ⟨sz, b, p, _, g3, hr⟩
      · have : ns = [] := by simpa using g3
        subst this
        rfl
      · cases g3
        obtain ⟨us, k1, k2, k3⟩ := hr.list
        rw [hfl] at k1
        have := RVs_ints k1
        subst this
        have h2 := run_loadCells_list (P := P) w ⟨b, p, none⟩ (ns.map (Value.int .u8)) (fun j v hj => by rw [add_plain]; exact k3 j v hj)
        simpa using h2
  rw [key]
  rfl
end

/-! ### calls -/
/-- Function f, called with args (which name no object), comes to r, and hands over the objects mr. -/
def Contract (P : Program) (f : FuncId) (args : List V) (r : V) (mr : List Ob) : Prop :=
  ∀ (w : World) (Zo : Nat → Prop) (us : List Value), (∀ b, Zo b → b < w.heap.size) → RVs (cx w Zo [] []) args us →
    Calls P f us.toArray w (fun e w' => ∃ v β, e = .returned v ∧ Grow w w' ∧ Mem w' Zo mr β ∧ RV (cx w' Zo mr β) r v ∧ ∀ b, liveAt mr β b → w.heap.size ≤ b)
/-- An object whose content names no object. -/
def Ob.pure : Ob → Prop
  | .box _ cs => Refs (fun _ => False) cs
  | .arr _ _ xs => Refss (fun _ => False) xs
  | .mp _ ks vs => Refs (fun _ => False) ks ∧ Refs (fun _ => False) vs
  | _ => True
theorem pure_tr {w : World} {Zo Zo' : Nat → Prop} {m m' : List Ob} {β β' : List Lc} (hz : ∀ b, (cx w Zo m β).fz b → (cx w Zo' m' β').fz b) : Tr (cx w Zo m β) (cx w Zo' m' β') (fun o => o) (fun _ => False) :=
  ⟨fun b hb => ⟨hz b hb, rfl⟩, fun _ h => h.elim⟩
theorem RVs.pure {w : World} {Zo Zo' : Nat → Prop} {m m' : List Ob} {β β' : List Lc} (hz : ∀ b, (cx w Zo m β).fz b → (cx w Zo' m' β').fz b) {xs : List V} {us : List Value} (hp : Refs (fun _ => False) xs) (h : RVs (cx w Zo m β) xs us) : RVs (cx w Zo' m' β') xs us := by
  have := RVs.tr (pure_tr hz) xs us hp h
  rwa [rens_pure xs hp] at this
/-- Objects of a call's are laid into the holes that were kept for them. -/
def fillsL : List Lc → Nat → List Lc → List Lc
  | b, _, [] => b
  | b, p, x :: xs => fillsL (b.set p x) (p + 1) xs
theorem fillsL_length : ∀ (xs b : List Lc) (p : Nat), (fillsL b p xs).length = b.length
  | [], _, _ => rfl
  | x :: xs, b, p => by simp [fillsL, fillsL_length xs]
theorem fills_get : ∀ (xs m : List Ob) (p q : Nat), p + xs.length ≤ m.length → (fills m p xs)[q]? = if p ≤ q ∧ q < p + xs.length then xs[q - p]? else m[q]?
  | [], m, p, q, _ => by
    rw [if_neg (fun h => by have := h.2; simp at this; omega), fills]
  | x :: xs, m, p, q, h => by
    have h' : p + (xs.length + 1) ≤ m.length := by simpa using h
    simp only [fills]
    rw [fills_get xs _ (p + 1) q (by simp; omega)]
    by_cases e : q = p
    · subst e
      rw [if_neg (by omega), if_pos (by simp), List.getElem?_set_self (by omega)]
      simp
    · by_cases h1 : p + 1 ≤ q ∧ q < p + 1 + xs.length
      · rw [if_pos h1, if_pos (by simp; omega)]
        obtain ⟨d, rfl⟩ : ∃ d, q = p + 1 + d := ⟨q - (p + 1), by omega⟩
        rw [show p + 1 + d - (p + 1) = d by omega, show p + 1 + d - p = d + 1 by omega, List.getElem?_cons_succ]
      · rw [if_neg h1, if_neg (by simp; omega), List.getElem?_set_ne (fun q => e q.symm)]
theorem fillsL_get : ∀ (xs m : List Lc) (p q : Nat), p + xs.length ≤ m.length → (fillsL m p xs)[q]? = if p ≤ q ∧ q < p + xs.length then xs[q - p]? else m[q]?
  | [], m, p, q, _ => by
    rw [if_neg (fun h => by have := h.2; simp at this; omega), fillsL]
  | x :: xs, m, p, q, h => by
    have h' : p + (xs.length + 1) ≤ m.length := by simpa using h
    simp only [fillsL]
    rw [fillsL_get xs _ (p + 1) q (by simp; omega)]
    by_cases e : q = p
    · subst e
      rw [if_neg (by omega), if_pos (by simp), List.getElem?_set_self (by omega)]
      simp
    · by_cases h1 : p + 1 ≤ q ∧ q < p + 1 + xs.length
      · rw [if_pos h1, if_pos (by simp; omega)]
        obtain ⟨d, rfl⟩ : ∃ d, q = p + 1 + d := ⟨q - (p + 1), by omega⟩
        rw [show p + 1 + d - (p + 1) = d by omega, show p + 1 + d - p = d + 1 by omega, List.getElem?_cons_succ]
      · rw [if_neg h1, if_neg (by simp; omega), List.getElem?_set_ne (fun q => e q.symm)]
/-! ### frozen objects, told by what they hold -/
/-- An object that nobody will write any more. -/
def Ob.still : Ob → Ob
  | .box _ cs => .box false cs
  | .arr _ sz xs => .arr false sz xs
  | .mp _ ks vs => .mp false ks vs
  | ob => ob
mutual
/-- Values of objects that are still, told by what they hold. -/
def conv (m : List Ob) : V → V
  | .ar q off len => match m[q]? with
    | some (.arr false sz xs) => .sl sz ((xs.drop off).take len)
    | _ => .ar q off len
  | .ptr q off => match m[q]? with
    | some (.box false cs) => .fptr cs off
    | _ => .ptr q off
  | .eptr q i off => match m[q]? with
    | some (.arr false sz xs) => if i < xs.length then .sptr sz xs i off else .junk
    | _ => .eptr q i off
  | .map q => match m[q]? with
    | some (.mp false ks vs) => .fmap ks vs
    | _ => .map q
  | .agg cs => .agg (convs m cs)
  | .tup cs => .tup (convs m cs)
  | .arc _ _ _ _ => .junk
  | .fn f fs cs => .fn f (convs m fs) (convs m cs)
  | .junk => .junk
  | .int k n => .int k n
  | .bool b => .bool b
  | .str s => .str s
  | .nil => .nil
  | .e0 => .e0
  | .sl sz xs => .sl sz xs
  | .sptr sz xs i off => .sptr sz xs i off
  | .fptr cs off => .fptr cs off
  | .fmap ks vs => .fmap ks vs
def convs (m : List Ob) : List V → List V
  | [] => []
  | x :: xs => conv m x :: convs m xs
end
/-- A value, all of whose objects are frozen. -/
def convR (m : List Ob) (x : V) : V := conv (m.map Ob.still) x
def convRs (m : List Ob) (xs : List V) : List V := convs (m.map Ob.still) xs

mutual
/-- A value that leads to nothing frozen. -/
def Flat : V → Prop
  | .sl _ xs => xs = []
  | .sptr _ _ _ _ => False
  | .fptr _ _ => False
  | .fmap _ _ => False
  | .fn _ fs cs => Flats fs ∧ Flats cs
  | .agg cs => Flats cs
  | .tup cs => Flats cs
  | _ => True
def Flats : List V → Prop
  | [] => True
  | x :: xs => Flat x ∧ Flats xs
end
def Flatss : List (List V) → Prop
  | [] => True
  | x :: xs => Flats x ∧ Flatss xs
def Ob.flat : Ob → Prop
  | .box lv cs => lv = true ∧ Flats cs
  | .arr lv _ xs => lv = true ∧ Flatss xs
  | .mp lv ks vs => lv = true ∧ Flats ks ∧ Flats vs
  | _ => True
section
variable {w : World} {Zo Zo' : Nat → Prop} {m : List Ob} {β : List Lc}
mutual
theorem RV.flat : ∀ (x : V) (v : Value), Flat x → RV (cx w Zo m β) x v → RV (cx w Zo' m β) x v
  | .sl sz xs, v, hf, h => by
    have hf : xs = [] := hf
    subst hf
    obtain ⟨A, cp, e, h1, h2, _⟩ := h
    exact ⟨A, cp, e, h1, h2, .inl rfl⟩
  | .sptr sz xs i off, v, hf, h => hf.elim
  | .fptr cs off, v, hf, h => hf.elim
  | .fmap ks vs, v, hf, h => hf.elim
  | .fn f fs cs, v, hf, ⟨us, vs, e, h1, h2⟩ => ⟨us, vs, e, RVs.flat fs us.toList hf.1 h1, RVs.flat cs vs.toList hf.2 h2⟩
  | .agg cs, v, hf, ⟨us, e, h⟩ => ⟨us, e, RVs.flat cs us.toList hf h⟩
  | .tup cs, v, hf, ⟨us, e, h⟩ => ⟨us, e, RVs.flat cs us.toList hf h⟩
  | .ar q off len, v, hf, h => h
  | .arc q off len cap, v, hf, h => h
  | .ptr q off, v, hf, h => h
  | .eptr q i off, v, hf, h => h
  | .map q, v, hf, h => h
  | .junk, v, hf, h => trivial
  | .int k n, v, hf, h => h
  | .bool b, v, hf, h => h
  | .str s, v, hf, h => h
  | .nil, v, hf, h => h
  | .e0, v, hf, h => h
theorem RVs.flat : ∀ (xs : List V) (us : List Value), Flats xs → RVs (cx w Zo m β) xs us → RVs (cx w Zo' m β) xs us
  | [], us, _, h => h
  | x :: xs, us, hf, ⟨u, us', e, h1, h2⟩ => ⟨u, us', e, RV.flat x u hf.1 h1, RVs.flat xs us' hf.2 h2⟩
end
theorem RC.flat {b : Nat} : ∀ (xs : List V) (o : Nat), Flats xs → RC (cx w Zo m β) b o xs → RC (cx w Zo' m β) b o xs
  | [], _, _, _ => trivial
  | x :: xs, o, hf, ⟨⟨u, e, h1⟩, h2⟩ => ⟨⟨u, e, RV.flat x u hf.1 h1⟩, RC.flat xs (o + 1) hf.2 h2⟩
theorem RR.flat {sz b : Nat} : ∀ (xs : List (List V)) (o : Nat), Flatss xs → RR (cx w Zo m β) sz b o xs → RR (cx w Zo' m β) sz b o xs
  | [], _, _, _ => trivial
  | x :: xs, o, hf, ⟨h0, h1, h2⟩ => ⟨h0, RC.flat x o hf.1 h1, RR.flat xs (o + sz) hf.2 h2⟩
/-- Objects that lead to nothing frozen do not mind what else is frozen. -/
theorem Mem.flatZ (M : Mem w Zo m β) (hf : ∀ ob ∈ m, ob.flat) (ho : ∀ b, liveAt m β b → ¬ Zo' b) (hz : ∀ b, Zo' b → b < w.heap.size) : Mem w Zo' m β := by
  refine ⟨M.len, fun o ob l h1 h2 => ?_, M.sep, ho, hz⟩
  have hfl := hf ob (List.mem_of_getElem? h1)
  have hok := M.ok o ob l h1 h2
  cases ob with
  | hole => trivial
  | dead => trivial
  | box lv cs =>
    obtain ⟨us, e, fr, k1, k2, k3, k4, k5⟩ := hok
    exact ⟨us, e, fr, k1, k2, k3, k4.flat _ _ hfl.2, .inl hfl.1⟩
  | arr lv sz xs =>
    obtain ⟨k1, k2, k3, k4⟩ := hok
    refine ⟨k1, k2, k3, k4.imp id ?_⟩
    rintro ⟨us, e, fr, q1, q2, q3, q4, q5⟩
    exact ⟨us, e, fr, q1, q2, q3, q4.flat _ _ hfl.2, .inl hfl.1⟩
  | mp lv ks vs =>
    obtain ⟨es, n, k1, k2, k3, k4⟩ := hok
    exact ⟨es, n, k1, RVs.flat _ _ hfl.2.1 k2, RVs.flat _ _ hfl.2.2 k3, .inl hfl.1⟩
end
end Go.Pm
