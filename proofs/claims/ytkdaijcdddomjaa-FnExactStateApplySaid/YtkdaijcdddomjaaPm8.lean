/- The abstract machine: more quiet operations. -/
import Derived.Test.YtkdaijcdddomjaaPm7
import Derived.Laws.Slices
set_option linter.unusedVariables false
set_option linter.unusedSimpArgs false
namespace Go.Pm
open Go.RowKit

section
variable {P : Program} {o : Oper} {ev : Operand → V} {mT : List Ob} {base : Nat} {K : V → List Ob → Prop}
theorem fld_out {s f off n : Nat} {ag : Bool} (h : fld P s f = some (off, n, ag)) : ∃ fs fd, P.underlying s = some (.struct fs) ∧ fs[f]? = some fd ∧ fd.offset = off ∧ lay P fd.type = some (n, ag) := by
  unfold fld at h
  split at h
  · rename_i fs hs
    split at h
    · rename_i fd hf
      split at h
      · rename_i n' b' hl
        simp only [Option.some.injEq, Prod.mk.injEq] at h
        obtain ⟨h1, h2, h3⟩ := h
        subst h1; subst h2; subst h3
        exact ⟨fs, fd, hs, hf, rfl, hl⟩
      · cases h
    · cases h
  · cases h
theorem run_fieldAt {w : World} {s f off n b p : Nat} {ag : Bool} (h : fld P s f = some (off, n, ag)) (hn : 0 < n) : (Instr.fieldAt s (.pointer (some ⟨b, p, none⟩)) f).run P w = .ok (.pointer (some ⟨b, p + off, none⟩)) w := by
  obtain ⟨fs, fd, h1, h2, h3, h4⟩ := fld_out h
  have h5 : ¬ n = 0 := by omega
  simp [Instr.fieldAt, run_und h1, h2, Instr.sureAddr, fieldPlace, run_sz h4, h5, add_plain, h3]
theorem q_fieldAddr {s f off n : Nat} {ag : Bool} {x : Operand} {r : V} (ho : o.op = .fieldAddr s x f) (hf : fld P s f = some (off, n, ag)) (hn : 0 < n) (hx' : (ev x).step off = some r) (hone : oneV mT (ev x) = true) (h : K r []) : Goal P o ev mT base K := by
  refine ⟨_, _, QS.value fun w Zo m β a M A hx => ?_, h⟩
  have hv := hx x (by rw [ho]; simp [Op.operands])
  cases hxv : ev x <;> rw [hxv] at hv hx' hone <;> simp only [V.step, Option.some.injEq, reduceCtorEq] at hx' <;> subst hx'
  case sptr =>
    obtain ⟨b, p, e, h1, h2⟩ := hv
    refine ⟨_, by simp only [execOp, ho]; rw [e, Sem.run_bind, run_fieldAt hf hn]; rfl, b, p, by rw [Nat.add_assoc], h1, h2⟩
  case fptr =>
    obtain ⟨b, e, h1, h2⟩ := hv
    refine ⟨_, by simp only [execOp, ho]; rw [e, Sem.run_bind, run_fieldAt hf hn]; rfl, b, rfl, h1, h2⟩
  case ptr =>
    simp only [oneV] at hone
    split at hone
    · rename_i hT
      obtain ⟨hm, l, hl, _, e⟩ := at_ptr M A hT hv (by simp)
      refine ⟨_, by simp only [execOp, ho]; rw [e, Sem.run_bind, run_fieldAt hf hn]; rfl, ?_⟩
      unfold RV
      rw [show (cx w Zo m β).m = m from rfl, show (cx w Zo m β).β = β from rfl, hm, hl]
    · cases hone
  case eptr =>
    simp only [oneV] at hone
    split at hone
    · rename_i hT
      obtain ⟨hm, l, hl, _, e⟩ := at_eptr M A hT hv
      refine ⟨_, by simp only [execOp, ho]; rw [e, Sem.run_bind, run_fieldAt hf hn]; rfl, ?_⟩
      unfold RV
      rw [show (cx w Zo m β).m = m from rfl, show (cx w Zo m β).β = β from rfl, hm, hl]
      show Value.pointer _ = _
      rw [Nat.add_assoc]
    · cases hone
theorem q_field {t f off n : Nat} {ag : Bool} {x : Operand} {cs : List V} (ho : o.op = .field t x f) (hf : fld P t f = some (off, n, ag)) (hx' : ev x = .agg cs) (h : rdVC ag n (cs.drop off) (fun r => K r [])) : Goal P o ev mT base K := by
  obtain ⟨k1, k2, k3⟩ := rd_out h
  refine ⟨_, _, QS.value fun w Zo m β a M A hx => ?_, k1⟩
  have hv := hx x (by rw [ho]; simp [Op.operands])
  rw [hx'] at hv
  obtain ⟨us, e, h1⟩ := hv
  obtain ⟨fs, fd, g1, g2, g3, g4⟩ := fld_out hf
  have h2 : (execOp a.eval o).run P w = ((part fd.type us off).run P w).andThen (fun v w' => Result.ok (.value v) w') := by
    simp only [execOp, ho]
    rw [e]
    simp [Instr.field, run_und g1, g2, asAgg, g3]
  rw [h2]
  unfold part
  simp only [Sem.run_bind, run_ag g4, Result.andThen_ok]
  cases ag with
  | true =>
    have h3 := (h1.drop off).take n
    refine ⟨.agg (us.extract off (off + n)), by simp [run_sz g4], _, rfl, ?_⟩
    simp only [Array.toList_extract, List.extract_eq_take_drop, Nat.add_sub_cancel_left]
    exact h3
  | false =>
    have hp := k3 rfl
    rw [List.length_drop] at hp
    have hlt : off < cs.length := by omega
    obtain ⟨u, q1, q2⟩ := h1.get off (List.getElem?_eq_getElem hlt)
    have q1' : us[off]? = some u := by simpa using q1
    refine ⟨u, by simp [q1'], ?_⟩
    simp only [Bool.false_eq_true, if_false]
    rw [List.getD_eq_getElem?_getD, List.getElem?_drop, Nat.add_zero, List.getElem?_eq_getElem hlt]
    exact q2
theorem elt_out {t e : TypeId} (h : elt P t = some e) : P.underlying t = some (.slice e) := by
  unfold elt at h
  split at h
  · rename_i e' he; simp at h; subst h; exact he
  · cases h
theorem run_indexAt {w : World} {t e : TypeId} {sz : Nat} {ag : Bool} {b p len cp : Nat} {k : IntKind} {i : Int} (he : elt P t = some e) (hl : lay P e = some (sz, ag)) (h0 : 0 ≤ i) (h1 : i < len) :
    (Instr.indexAt t (.slice (some ⟨b, p, none⟩) len cp) (.int k i)).run P w = .ok (.pointer (some ⟨b, p + i.toNat * sz, none⟩)) w := by
  simp [Instr.indexAt, asIntOf, run_und (elt_out he), h0, h1, run_sz hl, add_plain]
theorem q_index_sl {t e : TypeId} {sz : Nat} {ag : Bool} {x y : Operand} {xs : List (List V)} {k : IntKind} {i : Int} (ho : o.op = .indexAddr t x y) (he : elt P t = some e) (hl : lay P e = some (sz, ag)) (hx' : ev x = .sl sz xs) (hy' : ev y = .int k i)
    (h0 : 0 ≤ i) (h1 : i < xs.length) (h : K (.sptr sz xs i.toNat 0) []) : Goal P o ev mT base K := by
  refine ⟨_, _, QS.value fun w Zo m β a M A hx => ?_, h⟩
  have hv := hx x (by rw [ho]; simp [Op.operands])
  have hw := hx y (by rw [ho]; simp [Op.operands])
  rw [hx'] at hv
  rw [hy'] at hw
  obtain ⟨A', cp, e1, g1, g2, g3⟩ := hv
  rcases g3 with rfl | ⟨b, p, rfl, hf, hr⟩
  · simp at h1; omega
  refine ⟨_, by simp only [execOp, ho]; rw [e1, show a.eval y = .int k i from hw, Sem.run_bind, run_indexAt he hl h0 h1]; rfl, b, p, rfl, hf, hr⟩
theorem q_index_ar {t e : TypeId} {sz : Nat} {ag : Bool} {x y : Operand} {q off len : Nat} {lv : Bool} {xs : List (List V)} {k : IntKind} {i : Int} (ho : o.op = .indexAddr t x y) (he : elt P t = some e) (hl : lay P e = some (sz, ag)) (hx' : ev x = .ar q off len) (hT : mT[q]? = some (.arr lv sz xs)) (hy' : ev y = .int k i)
    (h0 : 0 ≤ i) (h1 : i < len) (h : K (.eptr q (off + i.toNat) 0) []) : Goal P o ev mT base K := by
  refine ⟨_, _, QS.value fun w Zo m β a M A hx => ?_, h⟩
  have hv := hx x (by rw [ho]; simp [Op.operands])
  have hw := hx y (by rw [ho]; simp [Op.operands])
  rw [hx'] at hv
  rw [hy'] at hw
  obtain ⟨hm, l, hβ, ⟨g1, g2, g3, g4⟩, g5, A', e1, g6⟩ := at_ar M A hT hv
  have hA := g6 (by omega)
  subst hA
  refine ⟨_, by simp only [execOp, ho]; rw [e1, show a.eval y = .int k i from hw, Sem.run_bind, run_indexAt he hl h0 h1]; rfl, ?_⟩
  unfold RV
  rw [show (cx w Zo m β).m = m from rfl, show (cx w Zo m β).β = β from rfl, hm, hβ]
  show Value.pointer _ = _
  rw [Nat.add_mul]
  rfl
theorem q_index_str {t : TypeId} {x y : Operand} {s : ByteArray} {k : IntKind} {i : Int} (ho : o.op = .index t x y) (ht : isStrT P t = true) (hx' : ev x = .str s) (hy' : ev y = .int k i)
    (h0 : 0 ≤ i) (h1 : i < s.size) (h : K (.int .u8 (byteAt s i.toNat)) []) : Goal P o ev mT base K := by
  refine ⟨_, _, QS.value fun w Zo m β a M A hx => ?_, h⟩
  have hv := hx x (by rw [ho]; simp [Op.operands])
  have hw := hx y (by rw [ho]; simp [Op.operands])
  rw [hx'] at hv
  rw [hy'] at hw
  have ht' : P.underlying t = some .string := by
    unfold isStrT at ht
    split at ht
    · assumption
    · cases ht
  have hb : i.toNat < s.size := by omega
  refine ⟨_, ?_, rfl⟩
  simp only [execOp, ho]
  rw [show a.eval x = .string s from hv, show a.eval y = .int k i from hw]
  simp [Instr.index, asIntOf, run_und ht', h0, byteAt, hb]
theorem q_len {x : Operand} {n : Int} {t : TypeId} (ho : o.op = .call { callee := .builtin .len, args := #[x], argTypes := #[t] }) (ht : isStrT P t = true ∨ (elt P t).isSome = true) (hs : (ev x).notNil = false)
    (hn : (match ev x with | .str s => isStrT P t = true ∧ n = s.size | .sl _ xs => (elt P t).isSome = true ∧ n = xs.length | .ar q _ len => (elt P t).isSome = true ∧ n = len ∧ (∃ lv sz xs, mT[q]? = some (.arr lv sz xs)) | .arc q _ len _ => (elt P t).isSome = true ∧ n = len ∧ (∃ lv sz xs, mT[q]? = some (.arr lv sz xs)) | .nil => (elt P t).isSome = true ∧ n = 0 | _ => False)) (h : K (.int .i64 n) []) : Goal P o ev mT base K := by
  refine ⟨_, _, QS.value fun w Zo m β a M A hx => ?_, h⟩
  have hv := hx x (by rw [ho]; simp [Op.operands, Call.operands])
  refine ⟨_, ?_, rfl⟩
  simp only [execOp, ho, resolve, Sem.run_bind, Sem.run_pure, Result.andThen_ok, invoke, builtin]
  cases hxv : ev x <;> rw [hxv] at hv hn <;> simp only at hn
  case str s =>
    obtain ⟨h1, rfl⟩ := hn
    have ht' : P.underlying t = some .string := by
      unfold isStrT at h1
      split at h1
      · assumption
      · cases h1
    simp [Builtin.len_, show a.eval x = .string s from hv, run_und ht', goInt]
  case nil =>
    obtain ⟨h1, rfl⟩ := hn
    obtain ⟨e, he⟩ := Option.isSome_iff_exists.1 h1
    simp [Builtin.len_, show a.eval x = .slice none 0 0 from hv, run_und (elt_out he), goInt]
  case sl sz xs =>
    obtain ⟨h1, rfl⟩ := hn
    obtain ⟨e, he⟩ := Option.isSome_iff_exists.1 h1
    obtain ⟨A', cp, e1, _⟩ := hv
    simp [Builtin.len_, e1, run_und (elt_out he), goInt]
  case ar q off len =>
    obtain ⟨h1, rfl, lv, sz, xs, hT⟩ := hn
    obtain ⟨e, he⟩ := Option.isSome_iff_exists.1 h1
    obtain ⟨hm, l, hβ, _, g5, A', e1, g6⟩ := at_ar M A hT hv
    simp [Builtin.len_, e1, run_und (elt_out he), goInt]
  case arc q off len cap =>
    obtain ⟨h1, rfl, lv, sz, xs, hT⟩ := hn
    obtain ⟨e, he⟩ := Option.isSome_iff_exists.1 h1
    obtain ⟨hm, l, hβ, _, g5, A', e1, g6⟩ := at_ar M A hT (RV_arc hv)
    simp [Builtin.len_, e1, run_und (elt_out he), goInt]
theorem q_cap {x : Operand} {t : TypeId} {q off len cap sz : Nat} {lv : Bool} {xs : List (List V)} (ho : o.op = .call { callee := .builtin .cap, args := #[x], argTypes := #[t] }) (ht : (elt P t).isSome = true) (hx' : ev x = .arc q off len cap) (hT : mT[q]? = some (.arr lv sz xs))
    (h : K (.int .i64 cap) []) : Goal P o ev mT base K := by
  refine ⟨_, _, QS.value fun w Zo m β a M A hx => ?_, h⟩
  have hv := hx x (by rw [ho]; simp [Op.operands, Call.operands])
  refine ⟨_, ?_, rfl⟩
  simp only [execOp, ho, resolve, Sem.run_bind, Sem.run_pure, Result.andThen_ok, invoke, builtin]
  rw [hx'] at hv
  obtain ⟨e, he⟩ := Option.isSome_iff_exists.1 ht
  obtain ⟨hm, l, hβ, _, g5, A', e1, g6⟩ := at_ar M A hT (RV_arc hv)
  have hc := RV_arc_cap hv hm hβ
  have : l.cap - off = cap := by omega
  rw [this] at e1
  simp [Builtin.cap_, e1, run_und (elt_out he), goInt]

/-! ### slices of strings and of slices -/
theorem run_bound {w : World} {k : IntKind} {i : Int} {y : Nat} {cd : BoundsCode} (h0 : 0 ≤ i) (h1 : i ≤ y) : (Instr.sliceBound (.int k i) y cd).run P w = .ok i.toNat w := by
  simp [Instr.sliceBound, asIntOf, h0, h1]
/-- What the bounds come to. -/
theorem run_bounds {w : World} {isS : Bool} {len cap : Nat} {lo hi : Option Operand} {a : Act} {c : Cx} {l h : Int} (hlo : bnd ev 0 lo = some l) (hhi : bnd ev len hi = some h) (r1 : ∀ x ∈ lo, RV c (ev x) (a.eval x)) (r2 : ∀ x ∈ hi, RV c (ev x) (a.eval x))
    (h0 : 0 ≤ l) (h1 : l ≤ h) (h2 : h ≤ cap) : (Instr.sliceBounds isS len cap (lo.map a.eval) (hi.map a.eval) none).run P w = .ok (l.toNat, h.toNat, cap) w := by
  have f : ∀ (d r : Int) (y : Option Operand), bnd ev d y = some r → (∀ x ∈ y, RV c (ev x) (a.eval x)) → (y = none ∧ r = d) ∨ ∃ x k, y = some x ∧ a.eval x = .int k r := by
    intro d r y hy hr
    cases y with
    | none => simp [bnd] at hy; exact .inl ⟨rfl, hy.symm⟩
    | some x =>
      simp only [bnd] at hy
      have hv := hr x rfl
      split at hy
      · rename_i k n hx
        simp at hy; subst hy
        rw [hx] at hv
        exact .inr ⟨x, k, rfl, hv⟩
      · cases hy
  have b2 : ∀ k cd, (Instr.sliceBound (.int k h) cap cd).run P w = .ok h.toNat w := fun k cd => run_bound (by omega) h2
  have b1 : ∀ k cd, (Instr.sliceBound (.int k l) h.toNat cd).run P w = .ok l.toNat w := fun k cd => run_bound h0 (by omega)
  rcases f _ _ _ hlo r1 with ⟨rfl, q1⟩ | ⟨x1, k1, rfl, q1⟩ <;> rcases f _ _ _ hhi r2 with ⟨rfl, q2⟩ | ⟨x2, k2, rfl, q2⟩
  · subst q1; subst q2; simp [Instr.sliceBounds]
  · subst q1; simp [Instr.sliceBounds, q2, b2]
  · have hl : h.toNat = len := by omega
    have b1' : ∀ k cd, (Instr.sliceBound (.int k l) len cd).run P w = .ok l.toNat w := fun k cd => by rw [← hl]; exact b1 k cd
    simp [Instr.sliceBounds, q1, b1', hl]
  · simp [Instr.sliceBounds, q1, q2, b1, b2]
theorem q_slice_str {t : TypeId} {x : Operand} {lo hi : Option Operand} {s : ByteArray} {l h : Int} (ho : o.op = .slice t x lo hi none) (ht : isStrT P t = true) (hx' : ev x = .str s) (hlo : bnd ev 0 lo = some l) (hhi : bnd ev s.size hi = some h)
    (h0 : 0 ≤ l) (h1 : l ≤ h) (h2 : h ≤ s.size) (hk : K (.str (s.extract l.toNat h.toNat)) []) : Goal P o ev mT base K := by
  refine ⟨_, _, QS.value fun w Zo m β a M A hx => ?_, hk⟩
  rw [ho] at hx
  have hv := hx x (by simp [Op.operands])
  rw [hx'] at hv
  have ht' : P.underlying t = some .string := by
    unfold isStrT at ht
    split at ht
    · assumption
    · cases ht
  have hb := run_bounds (P := P) (w := w) (isS := false) (len := s.size) (cap := s.size) (a := a) (c := cx w Zo m β) hlo hhi (fun y hy => hx y (by simp [Op.operands]; exact .inr (.inl hy))) (fun y hy => hx y (by simp [Op.operands]; exact .inr (.inr hy))) h0 h1 h2
  refine ⟨_, ?_, rfl⟩
  simp only [execOp, ho]
  rw [show a.eval x = .string s from hv]
  simp [Instr.sliceAt, Instr.slice, run_und ht', hb]
theorem run_slice_at {w : World} {t e : TypeId} {sz : Nat} {ag : Bool} {A : Option Addr} {len cp : Nat} {lo hi : Option Operand} {a : Act} {c : Cx} {l h : Int} (he : elt P t = some e) (hl : lay P e = some (sz, ag)) (hlo : bnd ev 0 lo = some l) (hhi : bnd ev len hi = some h) (r1 : ∀ x ∈ lo, RV c (ev x) (a.eval x)) (r2 : ∀ x ∈ hi, RV c (ev x) (a.eval x))
    (h0 : 0 ≤ l) (h1 : l ≤ h) (h2 : h ≤ cp) : (Instr.sliceAt t (.slice A len cp) (lo.map a.eval) (hi.map a.eval) none).run P w = .ok (.slice (if cp = l.toNat then A else A.map (·.add (l.toNat * sz))) (h.toNat - l.toNat) (cp - l.toNat)) w := by
  have hb := run_bounds (P := P) (w := w) (isS := true) (len := len) (cap := cp) (a := a) (c := c) hlo hhi r1 r2 h0 h1 h2
  simp [Instr.sliceAt, Instr.slice, run_und (elt_out he), hb, run_sz hl]
theorem q_slice_sl {t e : TypeId} {sz : Nat} {ag : Bool} {x : Operand} {lo hi : Option Operand} {xs : List (List V)} {l h : Int} (ho : o.op = .slice t x lo hi none) (he : elt P t = some e) (hl : lay P e = some (sz, ag)) (hx' : ev x = .sl sz xs) (hlo : bnd ev 0 lo = some l) (hhi : bnd ev xs.length hi = some h)
    (h0 : 0 ≤ l) (h1 : l ≤ h) (h2 : h ≤ xs.length) (hk : K (.sl sz ((xs.take h.toNat).drop l.toNat)) []) : Goal P o ev mT base K := by
  refine ⟨_, _, QS.value fun w Zo m β a M A hx => ?_, hk⟩
  rw [ho] at hx
  have hv := hx x (by simp [Op.operands])
  rw [hx'] at hv
  obtain ⟨A', cp, e1, g1, g2, g3⟩ := hv
  have hb := run_slice_at (P := P) (w := w) (A := A') (cp := cp) (a := a) (c := cx w Zo m β) he hl hlo hhi (fun y hy => hx y (by simp [Op.operands]; exact .inr (.inl hy))) (fun y hy => hx y (by simp [Op.operands]; exact .inr (.inr hy))) h0 h1 (by omega)
  have hlen : ((xs.take h.toNat).drop l.toNat).length = h.toNat - l.toNat := by rw [List.length_drop, List.length_take]; omega
  refine ⟨_, by simp only [execOp, ho]; rw [e1, Option.map_none, Sem.run_bind, hb]; rfl, ?_⟩
  refine ⟨_, _, by rw [hlen], by rw [hlen]; omega, by rw [hlen]; omega, ?_⟩
  by_cases hlt : l < h
  · rcases g3 with rfl | ⟨b, p, rfl, hf, hr⟩
    · simp at h2; omega
    · refine .inr ⟨b, p + l.toNat * sz, ?_, hf, ?_⟩
      · rw [if_neg (by omega), Option.map_some, add_plain]
      · exact (hr.take _).drop _
  · refine .inl (List.eq_nil_of_length_eq_zero (by rw [hlen]; omega))
theorem q_slice_ar {t e : TypeId} {sz : Nat} {ag : Bool} {x : Operand} {lo hi : Option Operand} {q off len : Nat} {lv : Bool} {xs : List (List V)} {l h : Int} (ho : o.op = .slice t x lo hi none) (he : elt P t = some e) (hl : lay P e = some (sz, ag)) (hx' : ev x = .ar q off len) (hT : mT[q]? = some (.arr lv sz xs)) (hlo : bnd ev 0 lo = some l) (hhi : bnd ev len hi = some h)
    (h0 : 0 ≤ l) (h1 : l ≤ h) (h2 : h ≤ len) (hk : K (.ar q (off + l.toNat) (h.toNat - l.toNat)) []) : Goal P o ev mT base K := by
  refine ⟨_, _, QS.value fun w Zo m β a M A hx => ?_, hk⟩
  rw [ho] at hx
  have hv := hx x (by simp [Op.operands])
  rw [hx'] at hv
  obtain ⟨hm, lc, hβ, ⟨g1, g2, g3, g4⟩, g5, A', e1, g6⟩ := at_ar M A hT hv
  have hb := run_slice_at (P := P) (w := w) (A := A') (cp := lc.cap - off) (a := a) (c := cx w Zo m β) he hl hlo hhi (fun y hy => hx y (by simp [Op.operands]; exact .inr (.inl hy))) (fun y hy => hx y (by simp [Op.operands]; exact .inr (.inr hy))) h0 h1 (by omega)
  refine ⟨_, by simp only [execOp, ho]; rw [e1, Option.map_none, Sem.run_bind, hb]; rfl, ?_⟩
  unfold RV
  rw [show (cx w Zo m β).m = m from rfl, show (cx w Zo m β).β = β from rfl, hm, hβ]
  refine ⟨by omega, _, by rw [Nat.sub_sub], fun hlt => ?_⟩
  rw [if_neg (by omega), g6 (by omega), Option.map_some, add_plain, Nat.add_mul]
theorem q_slice_arc {t e : TypeId} {sz : Nat} {ag : Bool} {x : Operand} {lo hi : Option Operand} {q off len cap : Nat} {lv : Bool} {xs : List (List V)} {l h : Int} (ho : o.op = .slice t x lo hi none) (he : elt P t = some e) (hl : lay P e = some (sz, ag)) (hx' : ev x = .arc q off len cap) (hT : mT[q]? = some (.arr lv sz xs)) (hlo : bnd ev 0 lo = some l) (hhi : bnd ev len hi = some h)
    (h0 : 0 ≤ l) (h1 : l ≤ h) (h2 : h ≤ cap) (h3 : off + h.toNat ≤ xs.length) (hk : K (.arc q (off + l.toNat) (h.toNat - l.toNat) (cap - l.toNat)) []) : Goal P o ev mT base K := by
  refine ⟨_, _, QS.value fun w Zo m β a M A hx => ?_, hk⟩
  rw [ho] at hx
  have hv := hx x (by simp [Op.operands])
  rw [hx'] at hv
  obtain ⟨hm, lc, hβ, ⟨g1, g2, g3, g4⟩, g5, A', e1, g6⟩ := at_ar M A hT (RV_arc hv)
  have hc := RV_arc_cap hv hm hβ
  have hc' : lc.cap - off = cap := by omega
  rw [hc'] at e1
  have hb := run_slice_at (P := P) (w := w) (A := A') (cp := cap) (a := a) (c := cx w Zo m β) he hl hlo hhi (fun y hy => hx y (by simp [Op.operands]; exact .inr (.inl hy))) (fun y hy => hx y (by simp [Op.operands]; exact .inr (.inr hy))) h0 h1 h2
  refine ⟨_, by simp only [execOp, ho]; rw [e1, Option.map_none, Sem.run_bind, hb]; rfl, ?_⟩
  unfold RV
  rw [show (cx w Zo m β).m = m from rfl, show (cx w Zo m β).β = β from rfl, hm, hβ]
  refine ⟨by omega, by omega, _, rfl, fun hlt => ?_⟩
  rw [if_neg (by omega), g6 (by omega), Option.map_some, add_plain, Nat.add_mul]
/-- x[a:b:c]: only its bounds are looked at. -/
theorem q_slice3 {t e : TypeId} {sz : Nat} {ag : Bool} {x xl xh xm : Operand} {q off len cap : Nat} {lv : Bool} {xs : List (List V)} {kl kh km : IntKind} {l h k : Int} (ho : o.op = .slice t x (some xl) (some xh) (some xm)) (he : elt P t = some e) (hl : lay P e = some (sz, ag)) (hx' : ev x = .arc q off len cap) (hT : mT[q]? = some (.arr lv sz xs))
    (h1 : ev xl = .int kl l) (h2 : ev xh = .int kh h) (h3 : ev xm = .int km k) (g0 : 0 ≤ l) (g1 : l ≤ h) (g2 : h ≤ k) (g3 : k ≤ cap) (hk : K .junk []) : Goal P o ev mT base K := by
  refine ⟨_, _, QS.value fun w Zo m β a M A hx => ?_, hk⟩
  rw [ho] at hx
  have hv := hx x (by simp [Op.operands])
  rw [hx'] at hv
  have v1 := hx xl (by simp [Op.operands])
  have v2 := hx xh (by simp [Op.operands])
  have v3 := hx xm (by simp [Op.operands])
  rw [h1] at v1
  rw [h2] at v2
  rw [h3] at v3
  have v1 : a.eval xl = .int kl l := v1
  have v2 : a.eval xh = .int kh h := v2
  have v3 : a.eval xm = .int km k := v3
  obtain ⟨hm, lc, hβ, ⟨b1, b2, b3, b4⟩, b5, A', e1, b6⟩ := at_ar M A hT (RV_arc hv)
  have hc := RV_arc_cap hv hm hβ
  have hc' : lc.cap - off = cap := by omega
  rw [hc'] at e1
  have c3 : ∀ cd, (Instr.sliceBound (.int km k) cap cd).run P w = .ok k.toNat w := fun cd => run_bound (by omega) g3
  have c2 : ∀ cd, (Instr.sliceBound (.int kh h) k.toNat cd).run P w = .ok h.toNat w := fun cd => run_bound (by omega) (by omega)
  have c1 : ∀ cd, (Instr.sliceBound (.int kl l) h.toNat cd).run P w = .ok l.toNat w := fun cd => run_bound g0 (by omega)
  have hr : (Instr.sliceAt t (a.eval x) (some (a.eval xl)) (some (a.eval xh)) (some (a.eval xm))).run P w = .ok (.slice (if k.toNat = l.toNat then A' else A'.map (·.add (l.toNat * sz))) (h.toNat - l.toNat) (k.toNat - l.toNat)) w := by
    rw [e1, v1, v2, v3]
    simp [Instr.sliceAt, Instr.slice, run_und (elt_out he), Instr.sliceBounds, c1, c2, c3, run_sz hl]
  exact ⟨_, by simp only [execOp, ho, Option.map_some]; rw [Sem.run_bind, hr]; rfl, trivial⟩
theorem q_slice_nil {t e : TypeId} {sz : Nat} {ag : Bool} {x : Operand} {lo hi : Option Operand} (ho : o.op = .slice t x lo hi none) (he : elt P t = some e) (hl : lay P e = some (sz, ag)) (hx' : ev x = .nil) (hlo : bnd ev 0 lo = some 0) (hhi : bnd ev 0 hi = some 0) (hk : K .nil []) : Goal P o ev mT base K := by
  refine ⟨_, _, QS.value fun w Zo m β a M A hx => ?_, hk⟩
  rw [ho] at hx
  have hv := hx x (by simp [Op.operands])
  rw [hx'] at hv
  have hb := run_slice_at (P := P) (w := w) (A := none) (len := 0) (cp := 0) (a := a) (c := cx w Zo m β) he hl hlo hhi (fun y hy => hx y (by simp [Op.operands]; exact .inr (.inl hy))) (fun y hy => hx y (by simp [Op.operands]; exact .inr (.inr hy))) (Int.le_refl _) (Int.le_refl _) (by simp)
  refine ⟨_, by simp only [execOp, ho]; rw [show a.eval x = .slice none 0 0 from hv, Option.map_none, Sem.run_bind, hb]; rfl, ?_⟩
  simp [RV]
theorem q_mm {gt : Bool} {x y : Operand} {ts : Array TypeId} {r : V} (ho : o.op = .call { callee := .builtin (if gt then .max else .min), args := #[x, y], argTypes := ts }) (hm : mm gt (ev x) (ev y) = some r) (hk : K r []) : Goal P o ev mT base K := by
  refine ⟨_, _, QS.value fun w Zo m β a M A hx => ?_, hk⟩
  rw [ho] at hx
  have hv := hx x (by simp [Op.operands, Call.operands])
  have hw := hx y (by simp [Op.operands, Call.operands])
  unfold mm at hm
  split at hm
  · rename_i k p k' q h1 h2
    simp only [Option.some.injEq] at hm; subst hm
    rw [h1] at hv
    rw [h2] at hw
    refine ⟨_, ?_, rfl⟩
    cases gt
    · simp [execOp, ho, resolve, invoke, builtin, Builtin.min_, Builtin.min2, show a.eval x = .int k p from hv, show a.eval y = .int k' q from hw]
    · simp [execOp, ho, resolve, invoke, builtin, Builtin.max_, Builtin.max2, show a.eval x = .int k p from hv, show a.eval y = .int k' q from hw]
  · cases hm
end
end Go.Pm
