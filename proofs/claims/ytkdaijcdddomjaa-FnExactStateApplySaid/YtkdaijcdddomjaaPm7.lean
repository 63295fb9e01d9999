/- The abstract machine: each quiet operation is sound. -/
import Derived.Test.YtkdaijcdddomjaaPm6
set_option linter.unusedVariables false
set_option linter.unusedSimpArgs false
namespace Go.Pm
open Go.RowKit

section
variable {P : Program} {o : Oper} {ev : Operand → V} {mT : List Ob} {base : Nat} {K : V → List Ob → Prop}
abbrev Goal (P : Program) (o : Oper) (ev : Operand → V) (mT : List Ob) (base : Nat) (K : V → List Ob → Prop) : Prop := ∃ r new, QS P o ev mT base r new ∧ K r new

theorem q_move {x : Operand} (ho : o.op = .move x) (h : K (ev x) []) : Goal P o ev mT base K :=
  ⟨_, _, QS.value fun w Zo m β a M A hx => ⟨_, by simp [execOp, ho], hx x (by rw [ho]; simp [Op.operands])⟩, h⟩
theorem q_assign {x : Operand} (ho : o.op = .assign x) (h : K (ev x) []) : Goal P o ev mT base K :=
  ⟨_, _, QS.value fun w Zo m β a M A hx => ⟨_, by simp [execOp, ho], hx x (by rw [ho]; simp [Op.operands])⟩, h⟩
theorem q_pick {c x y : Operand} {t : Bool} (ho : o.op = .pick c x y) (hc : ev c = .bool t) (h : K (if t then ev x else ev y) []) : Goal P o ev mT base K :=
  ⟨_, _, QS.value fun w Zo m β a M A hx => by
    have h1 : a.eval c = .bool t := by have := hx c (by rw [ho]; simp [Op.operands]); rwa [hc] at this
    have h2 := hx x (by rw [ho]; simp [Op.operands])
    have h3 := hx y (by rw [ho]; simp [Op.operands])
    refine ⟨if t then a.eval x else a.eval y, ?_, ?_⟩
    · simp only [execOp, ho, h1, asBool, Sem.run_bind, Sem.run_pure, Result.andThen_ok]
    · cases t
      · simpa using h3
      · simpa using h2, h⟩
/-- A value of one cell. -/
def oneV (m : List Ob) : V → Bool
  | .int _ _ => true
  | .bool _ => true
  | .str _ => true
  | .nil => true
  | .e0 => true
  | .sl _ _ => true
  | .sptr _ _ _ _ => true
  | .fptr _ _ => true
  | .fn _ _ _ => true
  | .fmap _ _ => true
  | .ar o _ _ => match m[o]? with
    | some (.arr _ _ _) => true
    | _ => false
  | .arc o _ _ _ => match m[o]? with
    | some (.arr _ _ _) => true
    | _ => false
  | .ptr o _ => match m[o]? with
    | some (.box _ _) => true
    | _ => false
  | .eptr o _ _ => match m[o]? with
    | some (.arr _ _ _) => true
    | _ => false
  | .map o => match m[o]? with
    | some (.mp _ _ _) => true
    | _ => false
  | _ => false
theorem one_cells {w : World} {Zo : Nat → Prop} {m : List Ob} {β : List Lc} (M : Mem w Zo m β) (A : Agree mT m) {x : V} {v : Value} (h1 : oneV mT x = true) (h : RV (cx w Zo m β) x v) : v.oneCell' = true := by
  cases x with
  | junk => simp [oneV] at h1
  | int k n => rw [show v = _ from h]; rfl
  | bool b => rw [show v = _ from h]; rfl
  | str s => rw [show v = _ from h]; rfl
  | nil => rw [show v = _ from h]; rfl
  | e0 => obtain ⟨_, h⟩ := h; rw [h]; rfl
  | sl sz xs => obtain ⟨_, _, h, _⟩ := h; rw [h]; rfl
  | sptr sz xs i off => obtain ⟨_, _, h, _⟩ := h; rw [h]; rfl
  | fptr cs off => obtain ⟨_, h, _⟩ := h; rw [h]; rfl
  | ar p off len =>
    simp only [oneV] at h1
    split at h1
    · rename_i hT
      obtain ⟨_, l, _, _, _, A', e, _⟩ := at_ar M A hT h
      rw [e]; rfl
    · cases h1
  | arc p off len cap =>
    simp only [oneV] at h1
    split at h1
    · rename_i hT
      obtain ⟨_, l, _, _, _, A', e, _⟩ := at_ar M A hT (RV_arc h)
      rw [e]; rfl
    · cases h1
  | ptr p off =>
    simp only [oneV] at h1
    split at h1
    · rename_i hT
      obtain ⟨_, l, _, _, e⟩ := at_ptr M A hT h (by simp)
      rw [e]; rfl
    · cases h1
  | eptr p i off =>
    simp only [oneV] at h1
    split at h1
    · rename_i hT
      obtain ⟨_, l, _, _, e⟩ := at_eptr M A hT h
      rw [e]; rfl
    · cases h1
  | fn f fs cs => obtain ⟨_, _, h, _⟩ := h; rw [h]; rfl
  | map p =>
    simp only [oneV] at h1
    split at h1
    · rename_i hT
      obtain ⟨_, l, _, _, e⟩ := at_map M A hT h
      rw [e]; rfl
    · cases h1
  | fmap ks vs => obtain ⟨_, _, _, h, _⟩ := h; rw [h]; rfl
  | agg cs => simp [oneV] at h1
  | tup cs => simp [oneV] at h1
theorem cells_one {v : Value} (h : v.oneCell' = true) : v.cells = #[v] := by
  cases v <;> first | rfl | (simp [Value.oneCell'] at h)

theorem alloc_eq (w : World) (o : Obj) : ({ w with heap := w.heap.push o } : World) = w.alloc o := rfl
theorem heap_new (w : World) (o : Obj) : (w.alloc o).heap[w.heap.size]? = some o := by
  show (w.heap.push o)[w.heap.size]? = _
  simp
theorem cell_new (w : World) (us : Array Value) (e : TypeId) (fr : Nat × Nat) (j : Nat) : (w.alloc (.cells us e fr)).cell? ⟨w.heap.size, j, none⟩ = us[j]? := by
  unfold World.cell?
  rw [heap_new]
  rfl
/-- A box is laid. -/
theorem q_newbox {e : TypeId} {cs : List V} (h : ∀ (w : World) (Zo : Nat → Prop) (m : List Ob) (β : List Lc) (a : Act), Mem w Zo m β → Agree mT m → (∀ x ∈ o.op.operands, RV (cx w Zo m β) (ev x) (a.eval x)) →
    ∃ us : Array Value, (execOp a.eval o).run P w = .ok (.value (.pointer (some ⟨w.heap.size, 0, none⟩))) (w.alloc (.cells us e)) ∧ us.size = cs.length ∧ RVs (cx w Zo m β) cs us.toList) (hk : K (.ptr base 0) [.box true cs]) : Goal P o ev mT base K := by
  refine ⟨_, _, QS.new1 fun w Zo m β a M A hx => ?_, hk⟩
  obtain ⟨us, h1, h2, h3⟩ := h w Zo m β a M A hx
  refine ⟨_, _, ⟨w.heap.size, 0⟩, h1, Grow.alloc w _, fun b hb => by simp [Ob.blk] at hb; omega, ?_⟩
  intro c' hle hw hm hβ hob
  refine ⟨⟨us, e, (0, 0), by rw [hw]; exact heap_new w _, h2, NoFr.zero _, ?_, .inl rfl⟩, ?_⟩
  · refine RC.of (h3.mono hle) fun j u hj => ?_
    rw [hw, cell_new, Nat.zero_add]
    simpa using hj
  · unfold RV
    rw [hob, hβ]
theorem q_alloc {e : TypeId} {cs : List V} (ho : o.op = .alloc e) (hz : zer P e = some cs) (h : K (.ptr base 0) [.box true cs]) : Goal P o ev mT base K := by
  refine q_newbox (e := e) (fun w Zo m β a M A hx => ?_) h
  unfold zer at hz
  split at hz
  · rename_i i hi
    split at hz
    · rename_i z hz'
      simp only [Option.some.injEq] at hz; subst hz
      refine ⟨z.cells, ?_, by simp, RVs_ofVal1 _ _⟩
      simp [execOp, ho, Instr.alloc, zeroValue, typeInfo, hi, hz', newVar, newRow, alloc_eq]
    · cases hz
  · cases hz
theorem q_box1 {e : TypeId} {x : Operand} (ho : o.op = .box e x) (h1 : oneV mT (ev x) = true) (h : K (.ptr base 0) [.box true [ev x]]) : Goal P o ev mT base K := by
  refine q_newbox (e := e) (fun w Zo m β a M A hx => ?_) h
  have hv := hx x (by rw [ho]; simp [Op.operands])
  have hc := cells_one (one_cells M A h1 hv)
  refine ⟨#[a.eval x], ?_, by simp, ⟨_, _, rfl, hv, rfl⟩⟩
  simp [execOp, ho, Instr.box, newVar, newRow, alloc_eq, hc]
theorem q_box {e : TypeId} {x : Operand} {cs : List V} (ho : o.op = .box e x) (h1 : ev x = .agg cs) (h : K (.ptr base 0) [.box true cs]) : Goal P o ev mT base K := by
  refine q_newbox (e := e) (fun w Zo m β a M A hx => ?_) h
  have hv := hx x (by rw [ho]; simp [Op.operands])
  rw [h1] at hv
  obtain ⟨us, e1, e2⟩ := hv
  refine ⟨us, ?_, by rw [← Array.length_toList, e2.length], e2⟩
  simp [execOp, ho, Instr.box, newVar, newRow, alloc_eq, e1, Value.cells]
theorem rd_sound {c : Cx} {t : TypeId} {b p : Nat} {cs : List V} {sz : Nat} {ag : Bool} {K1 : V → Prop} (hl : lay P t = some (sz, ag)) (h : RC c b p cs) (k : rdVC ag sz cs K1) :
    ∃ r, K1 r ∧ ∃ v, (Go.loadVar t ⟨b, p, none⟩).run P c.w = .ok v c.w ∧ RV c r v := by
  unfold rdVC at k
  cases ag with
  | true =>
    simp only [if_true] at k
    obtain ⟨v, h1, h2⟩ := run_loadVar (P := P) hl h (fun _ => k.1) (by simp)
    exact ⟨_, k.2, v, h1, h2⟩
  | false =>
    simp only [if_false, Bool.false_eq_true] at k
    obtain ⟨v, h1, h2⟩ := run_loadVar (P := P) hl h (by simp) (fun _ => k.1)
    exact ⟨_, k.2, v, h1, h2⟩
theorem rd_out {ag : Bool} {sz : Nat} {cs : List V} {K1 : V → Prop} (k : rdVC ag sz cs K1) : K1 (if ag then .agg (cs.take sz) else cs.getD 0 .junk) ∧ (ag = true → sz ≤ cs.length) ∧ (ag = false → 0 < cs.length) := by
  unfold rdVC at k
  cases ag with
  | true => simp only [if_true] at k ⊢; exact ⟨k.2, fun _ => k.1, by simp⟩
  | false => simp only [if_false, Bool.false_eq_true] at k ⊢; exact ⟨k.2, by simp, fun _ => k.1⟩
theorem RR.at_ {c : Cx} {sz b p i : Nat} {xs : List (List V)} (h : RR c sz b p xs) (hi : i < xs.length) : RC c b (p + i * sz) (xs.getD i []) := by
  rw [List.getD_eq_getElem?_getD, List.getElem?_eq_getElem hi]
  exact (h.get i (List.getElem?_eq_getElem hi)).2
theorem q_load {t : TypeId} {x : Operand} (ho : o.op = .load t x) (h : ldVC P t mT (ev x) (fun r => K r [])) : Goal P o ev mT base K := by
  unfold ldVC at h
  split at h
  · rename_i sz ag hl
    have fin : ∀ (r : V), K r [] → (∀ (w : World) (Zo : Nat → Prop) (m : List Ob) (β : List Lc) (v : Value), Mem w Zo m β → Agree mT m → RV (cx w Zo m β) (ev x) v →
        ∃ b p, v = .pointer (some ⟨b, p, none⟩) ∧ ∃ u, (Go.loadVar t ⟨b, p, none⟩).run P w = .ok u w ∧ RV (cx w Zo m β) r u) → Goal P o ev mT base K := by
      intro r hk hh
      refine ⟨r, [], QS.value fun w Zo m β a M A hx => ?_, hk⟩
      obtain ⟨b, p, e, u, h1, h2⟩ := hh w Zo m β (a.eval x) M A (hx x (by rw [ho]; simp [Op.operands]))
      refine ⟨u, ?_, h2⟩
      simp [execOp, ho, Instr.loadAt, Instr.sureAddr, e, h1]
    split at h
    · rename_i p off hp
      split at h
      · rename_i lv cs hT
        obtain ⟨k1, k2, k3⟩ := rd_out h
        refine fin _ k1 fun w Zo m β v M A hv => ?_
        rw [hp] at hv
        obtain ⟨hm, l, _, ⟨us, e, fr, _, _, _, hrc, _⟩, e2⟩ := at_ptr M A hT hv (by simp)
        refine ⟨l.b, off, e2, ?_⟩
        have := hrc.drop off
        rw [Nat.zero_add] at this
        exact run_loadVar (P := P) (c := cx w Zo m β) hl this k2 k3
      · exact h.elim
    · rename_i p i off hp
      split at h
      · rename_i lv sz' xs hT
        obtain ⟨hi, h⟩ := h
        obtain ⟨k1, k2, k3⟩ := rd_out h
        refine fin _ k1 fun w Zo m β v M A hv => ?_
        rw [hp] at hv
        obtain ⟨hm, l, _, ⟨g1, g2, g3, g4⟩, e2⟩ := at_eptr M A hT hv
        rcases g4 with g4 | ⟨us, e, fr, _, _, _, hrr, _⟩
        · omega
        refine ⟨l.b, _, e2, ?_⟩
        have := (hrr.at_ hi).drop off
        rw [Nat.zero_add] at this
        exact run_loadVar (P := P) (c := cx w Zo m β) hl this k2 k3
      · exact h.elim
    · rename_i sz' xs i off hp
      obtain ⟨hi, h⟩ := h
      obtain ⟨k1, k2, k3⟩ := rd_out h
      refine fin _ k1 fun w Zo m β v M A hv => ?_
      rw [hp] at hv
      obtain ⟨b, p, e2, _, hrr⟩ := hv
      exact ⟨b, _, e2, run_loadVar (P := P) (c := cx w Zo m β) hl ((hrr.at_ hi).drop off) k2 k3⟩
    · rename_i cs off hp
      obtain ⟨k1, k2, k3⟩ := rd_out h
      refine fin _ k1 fun w Zo m β v M A hv => ?_
      rw [hp] at hv
      obtain ⟨b, e2, _, hrc⟩ := hv
      have := hrc.drop off
      rw [Nat.zero_add] at this
      exact ⟨b, _, e2, run_loadVar (P := P) (c := cx w Zo m β) hl this k2 k3⟩
    · exact h.elim
  · exact h.elim
theorem q_nilCheck {x : Operand} (ho : o.op = .nilCheck x) (hn : (ev x).notNil = true) (hone : oneV mT (ev x) = true) (h : K (ev x) []) : Goal P o ev mT base K := by
  refine ⟨_, _, QS.value fun w Zo m β a M A hx => ?_, h⟩
  have hv := hx x (by rw [ho]; simp [Op.operands])
  refine ⟨a.eval x, ?_, hv⟩
  cases hxv : ev x <;> rw [hxv] at hn hv hone <;> simp only [V.notNil, Bool.false_eq_true] at hn
  case sptr => obtain ⟨b, p, e, _⟩ := hv; simp [execOp, ho, e]
  case fptr => obtain ⟨b, e, _⟩ := hv; simp [execOp, ho, e]
  case fn => obtain ⟨us, vs, e, _⟩ := hv; simp [execOp, ho, e]
  case ptr =>
    simp only [oneV] at hone
    split at hone
    · rename_i hT
      obtain ⟨_, l, _, _, e⟩ := at_ptr M A hT hv (by simp)
      simp [execOp, ho, e]
    · cases hone
  case eptr =>
    simp only [oneV] at hone
    split at hone
    · rename_i hT
      obtain ⟨_, l, _, _, e⟩ := at_eptr M A hT hv
      simp [execOp, ho, e]
    · cases hone
theorem q_bin {op : BinOp} {t u : TypeId} {x y : Operand} {r : V} (ho : o.op = .binOp op t x y u) (hb : binV op (ev x) (ev y) = some r) (h : K r []) : Goal P o ev mT base K := by
  refine ⟨_, _, QS.value fun w Zo m β a M A hx => ?_, h⟩
  obtain ⟨z, h1, h2⟩ := run_binV (P := P) (w := w) (t := t) hb (hx x (by rw [ho]; simp [Op.operands])) (hx y (by rw [ho]; simp [Op.operands])) x y
  refine ⟨z, ?_, h2⟩
  simp only [execOp, ho]
  rw [Sem.run_bind, h1]
  rfl
theorem q_binb {op : BinOp} {t u : TypeId} {x y : Operand} {r : V} (ho : o.op = .binOp op t x y u) (ht : isBoolT P t = true) (hb : boolV op (ev x) (ev y) = some r) (h : K r []) : Goal P o ev mT base K := by
  refine ⟨_, _, QS.value fun w Zo m β a M A hx => ?_, h⟩
  have ht' : P.underlying t = some .bool := by
    unfold isBoolT at ht
    split at ht
    · assumption
    · cases ht
  obtain ⟨z, h1, h2⟩ := run_boolV (P := P) (w := w) (t := t) ht' hb (hx x (by rw [ho]; simp [Op.operands])) (hx y (by rw [ho]; simp [Op.operands])) x y
  refine ⟨z, ?_, h2⟩
  simp only [execOp, ho]
  rw [Sem.run_bind, h1]
  rfl
theorem q_not {t : TypeId} {x : Operand} {b : Bool} (ho : o.op = .unOp .not t x) (hx' : ev x = .bool b) (h : K (.bool (!b)) []) : Goal P o ev mT base K := by
  refine ⟨_, _, QS.value fun w Zo m β a M A hx => ?_, h⟩
  have hv := hx x (by rw [ho]; simp [Op.operands])
  rw [hx'] at hv
  exact ⟨_, by simp only [execOp, ho]; rw [show a.eval x = .bool b from hv]; rfl, rfl⟩
theorem q_neg {t : TypeId} {x : Operand} {k : IntKind} {n : Int} (ho : o.op = .unOp .neg t x) (hx' : ev x = .int k n) (h : K (.int k (k.wrap (0 - n))) []) : Goal P o ev mT base K := by
  refine ⟨_, _, QS.value fun w Zo m β a M A hx => ?_, h⟩
  have hv := hx x (by rw [ho]; simp [Op.operands])
  rw [hx'] at hv
  exact ⟨_, by simp only [execOp, ho]; rw [show a.eval x = .int k n from hv]; rfl, rfl⟩
theorem q_xor {t : TypeId} {x : Operand} {k : IntKind} {n : Int} (ho : o.op = .unOp .xor t x) (hx' : ev x = .int k n) (h : K (.int k (k.wrap (BitVec.ofInt k.bits (if k.signed then -1 else k.max) ^^^ BitVec.ofInt k.bits n).toNat)) []) : Goal P o ev mT base K := by
  refine ⟨_, _, QS.value fun w Zo m β a M A hx => ?_, h⟩
  have hv := hx x (by rw [ho]; simp [Op.operands])
  rw [hx'] at hv
  exact ⟨_, by simp only [execOp, ho]; rw [show a.eval x = .int k n from hv]; rfl, rfl⟩
theorem q_conv {src dst : TypeId} {x : Operand} {k k' : IntKind} {n : Int} (ho : o.op = .convert src dst x) (hs : hasT P src = true) (ht : intT P dst = some k) (hx' : ev x = .int k' n) (h : K (.int k (k.wrap n)) []) : Goal P o ev mT base K := by
  refine ⟨_, _, QS.value fun w Zo m β a M A hx => ?_, h⟩
  have hv := hx x (by rw [ho]; simp [Op.operands])
  rw [hx'] at hv
  obtain ⟨d, hd⟩ := Option.isSome_iff_exists.1 hs
  have ht' : P.underlying dst = some (.int k) := by
    unfold intT at ht
    split at ht
    · rename_i k2 h2; simp at ht; subst ht; exact h2
    · cases ht
  refine ⟨_, ?_, rfl⟩
  simp only [execOp, ho]
  rw [show a.eval x = .int k' n from hv]
  simp only [convert, Sem.run_bind, run_und hd, run_und ht', Result.andThen_ok]
  rfl
theorem run_evs {a : Act} {c : Cx} : ∀ (l : List Operand), (∀ x ∈ l, RV c (ev x) (a.eval x)) → RVs c (l.map ev) (l.map a.eval)
  | [], _ => rfl
  | x :: l, h => ⟨_, _, rfl, h x List.mem_cons_self, run_evs l fun y hy => h y (List.mem_cons_of_mem _ hy)⟩
theorem q_makeFunc {f : FuncId} {fs cs : Array Operand} (ho : o.op = .makeFunc (.func f) fs cs) (h : K (.fn f (fs.toList.map ev) (cs.toList.map ev)) []) : Goal P o ev mT base K := by
  refine ⟨_, _, QS.value fun w Zo m β a M A hx => ?_, h⟩
  rw [ho] at hx
  refine ⟨.func (.func f) (fs.map a.eval) (cs.map a.eval), by simp [execOp, ho, Instr.makeFunc], _, _, rfl, ?_, ?_⟩
  · have := run_evs (a := a) (c := cx w Zo m β) fs.toList (fun x hx' => hx x (by simp [Op.operands] at hx' ⊢; exact .inl hx'))
    simpa using this
  · have := run_evs (a := a) (c := cx w Zo m β) cs.toList (fun x hx' => hx x (by simp [Op.operands] at hx' ⊢; exact .inr hx'))
    simpa using this
theorem q_extract {x : Operand} {i : Nat} {vs : List V} (ho : o.op = .extract x i) (hx' : ev x = .tup vs) (hi : i < vs.length) (h : K (vs.getD i .junk) []) : Goal P o ev mT base K := by
  refine ⟨_, _, QS.value fun w Zo m β a M A hx => ?_, h⟩
  have hv := hx x (by rw [ho]; simp [Op.operands])
  rw [hx'] at hv
  obtain ⟨us, e, h1⟩ := hv
  obtain ⟨u, k1, k2⟩ := h1.get i (List.getElem?_eq_getElem hi)
  refine ⟨u, ?_, ?_⟩
  · have k1' : us[i]? = some u := by simpa using k1
    simp only [execOp, ho, e, Instr.extract, k1']
    rfl
  · rw [List.getD_eq_getElem?_getD, List.getElem?_eq_getElem hi]
    exact k2
end
end Go.Pm
