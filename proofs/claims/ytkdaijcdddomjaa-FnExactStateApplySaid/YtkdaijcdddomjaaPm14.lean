/- The abstract machine: conditions, computed. -/
import Derived.Test.YtkdaijcdddomjaaPm13
set_option linter.unusedVariables false
set_option linter.unusedSimpArgs false
namespace Go.Pm
open Go.RowKit

/-- A function that has a body, and is not read in any other way. -/
def bodyOK (P : Program) (f : FuncId) : Bool := match P.funcs[f]? with
  | some fn => fn.body.isSome && !(fn.name == "runtime.NumGoroutine")
  | none => false
def callVC (P : Program) (f : FuncId) (args : List V) (m : List Ob) (base : Nat) (K : V → List Ob → Prop) : Prop :=
  ∃ r mr, ((Contract P f args r mr ∧ Refs (fun _ => False) args) ∨ (Contract P f (convRs m args) r mr ∧ Refs (fun _ => False) (convRs m args) ∧ Flat r ∧ ∀ ob ∈ mr, ob.flat)) ∧ (∀ ob ∈ mr, ob.pure) ∧ bodyOK P f = true ∧ K (r.ren (fun q => base + q)) mr
def boxVC (m : List Ob) (base : Nat) (K : V → List Ob → Prop) : V → Prop
  | .agg cs => K (.ptr base 0) [.box true cs]
  | v => oneV m v = true ∧ K (.ptr base 0) [.box true [v]]
def buildVC (P : Program) (t : TypeId) (m : List Ob) (ev : Operand → V) (ps : List (Nat × Operand)) (K : V → List Ob → Prop) : Prop := match zer P t, partsV m ev ps with
  | some zs, some ps => match fillG (placeS P t) zs ps with
    | some cs => fldsOK P t = true ∧ K (.agg cs) []
    | none => False
  | _, _ => False
def bsliceVC (P : Program) (t : TypeId) (len : Nat) (m : List Ob) (base : Nat) (ev : Operand → V) (ps : List (Nat × Operand)) (K : V → List Ob → Prop) : Prop := match elt P t with
  | some e => match lay P e, zer P e with
    | some (sz, _), some _ => match rowV m ev sz 0 ps with
      | some xs => 0 < sz ∧ xs.length = len ∧ len * sz ≤ 2 ^ 24 ∧ K (.ar base 0 len) [.arr true sz xs]
      | none => False
    | _, _ => False
  | none => False
/-- In any order: no elements, no object. -/
def bslVC (P : Program) (t : TypeId) (len : Nat) (m : List Ob) (base : Nat) (ev : Operand → V) (ps : List (Nat × Operand)) (K : V → List Ob → Prop) : Prop := match len, ps with
  | 0, [] => match elt P t with
    | some e => match lay P e, zer P e with
      | some _, some _ => K .e0 []
      | _, _ => False
    | none => False
  | len, ps => bsliceVC P t len m base ev ps K
def binVC (P : Program) (op : BinOp) (t : TypeId) (x y : V) (K : V → Prop) : Prop := match binV op x y with
  | some r => K r
  | none => match boolV op x y with
    | some r => isBoolT P t = true ∧ K r
    | none => False
def unVC (op : UnOp) (x : V) (K : V → Prop) : Prop := match op, x with
  | .not, .bool b => K (.bool (!b))
  | .neg, .int k n => K (.int k (k.wrap (0 - n)))
  | .xor, .int k n => K (.int k (k.wrap (BitVec.ofInt k.bits (if k.signed then -1 else k.max) ^^^ BitVec.ofInt k.bits n).toNat))
  | _, _ => False
def convVC (P : Program) (s d : TypeId) (m : List Ob) (x : V) (K : V → Prop) : Prop := match x with
  | .int _ n => match intT P d with
    | some k => hasT P s = true ∧ K (.int k (k.wrap n))
    | none => False
  | x => ∃ ns e, elt P s = some e ∧ intT P e = some .u8 ∧ isStrT P d = true ∧ elemsV m x = some (ns.map fun n => [.int .u8 n]) ∧ K (.str (strOf ns))
def mkfVC (ev : Operand → V) (fn : Fn) (fs cs : Array Operand) (K : V → Prop) : Prop := match fn with
  | .func f => K (.fn f (fs.toList.map ev) (cs.toList.map ev))
  | _ => False
def mksVC (P : Program) (t : TypeId) (base : Nat) (x y : V) (K : V → List Ob → Prop) : Prop := match elt P t with
  | some e => match lay P e, zer P e with
    | some (sz, _), some zs => match x, y with
      | .int _ n, .int _ n' => n' = n ∧ 0 < sz ∧ zs.length = sz ∧ 0 ≤ n ∧ n * P.bytesOf e ≤ 2 ^ 47 ∧ n ≤ 2 ^ 47 ∧ K (.ar base 0 n.toNat) [.arr true sz (List.replicate n.toNat zs)]
      | _, _ => False
    | _, _ => False
  | none => False
def sliceVC (P : Program) (t : TypeId) (m : List Ob) (ev : Operand → V) (x : V) (lo hi mx : Option Operand) (K : V → Prop) : Prop := match mx with
  | some xm => match lo, hi with
    | some xl, some xh => match x with
      | .arc q _ _ cap => match elt P t with
        | some e => match lay P e, ev xl, ev xh, ev xm, m[q]? with
          | some (sz', _), .int _ l, .int _ h, .int _ k, some (.arr _ sz _) => sz' = sz ∧ 0 ≤ l ∧ l ≤ h ∧ h ≤ k ∧ k ≤ cap ∧ K .junk
          | _, _, _, _, _ => False
        | none => False
      | _ => False
    | _, _ => False
  | none => match x with
    | .str s => match bnd ev 0 lo, bnd ev s.size hi with
      | some l, some h => isStrT P t = true ∧ 0 ≤ l ∧ l ≤ h ∧ h ≤ s.size ∧ K (.str (s.extract l.toNat h.toNat))
      | _, _ => False
    | .sl sz xs => match elt P t with
      | some e => match lay P e, bnd ev 0 lo, bnd ev xs.length hi with
        | some (sz', _), some l, some h => sz' = sz ∧ 0 ≤ l ∧ l ≤ h ∧ h ≤ xs.length ∧ K (.sl sz ((xs.take h.toNat).drop l.toNat))
        | _, _, _ => False
      | none => False
    | .ar q off len => match elt P t with
      | some e => match lay P e, bnd ev 0 lo, bnd ev len hi, m[q]? with
        | some (sz', _), some l, some h, some (.arr _ sz _) => sz' = sz ∧ 0 ≤ l ∧ l ≤ h ∧ h ≤ len ∧ K (.ar q (off + l.toNat) (h.toNat - l.toNat))
        | _, _, _, _ => False
      | none => False
    | .arc q off len cap => match elt P t with
      | some e => match lay P e, bnd ev 0 lo, bnd ev len hi, m[q]? with
        | some (sz', _), some l, some h, some (.arr _ sz xs) => sz' = sz ∧ 0 ≤ l ∧ l ≤ h ∧ h ≤ cap ∧ off + h.toNat ≤ xs.length ∧ K (.arc q (off + l.toNat) (h.toNat - l.toNat) (cap - l.toNat))
        | _, _, _, _ => False
      | none => False
    | .nil => match elt P t with
      | some e => match lay P e, bnd ev 0 lo, bnd ev 0 hi with
        | some _, some l, some h => l = 0 ∧ h = 0 ∧ K .nil
        | _, _, _ => False
      | none => False
    | _ => False
def faddrVC (P : Program) (s f : Nat) (m : List Ob) (x : V) (K : V → Prop) : Prop := match fld P s f with
  | some (off, n, _) => match x.step off with
    | some r => 0 < n ∧ oneV m x = true ∧ K r
    | none => False
  | none => False
def fieldVC (P : Program) (t f : Nat) (x : V) (K : V → Prop) : Prop := match fld P t f with
  | some (off, n, ag) => match x with
    | .agg cs => rdVC ag n (cs.drop off) K
    | _ => False
  | none => False
def iaddrVC (P : Program) (t : TypeId) (m : List Ob) (x y : V) (K : V → Prop) : Prop := match elt P t with
  | some e => match lay P e with
    | some (sz, _) => match x, y with
      | .sl sz' xs, .int _ i => sz' = sz ∧ 0 ≤ i ∧ i < xs.length ∧ K (.sptr sz xs i.toNat 0)
      | .ar q off len, .int _ i => match m[q]? with
        | some (.arr _ sz' _) => sz' = sz ∧ 0 ≤ i ∧ i < len ∧ K (.eptr q (off + i.toNat) 0)
        | _ => False
      | _, _ => False
    | none => False
  | none => False
def indexVC (P : Program) (t : TypeId) (x y : V) (K : V → Prop) : Prop := match x, y with
  | .str s, .int _ i => isStrT P t = true ∧ 0 ≤ i ∧ i < s.size ∧ K (.int .u8 (byteAt s i.toNat))
  | _, _ => False
def extrVC (x : V) (i : Nat) (K : V → Prop) : Prop := match x with
  | .tup vs => i < vs.length ∧ K (vs.getD i .junk)
  | _ => False
def lenVC (P : Program) (t : TypeId) (m : List Ob) (x : V) (K : V → Prop) : Prop := match x with
  | .str s => isStrT P t = true ∧ K (.int .i64 s.size)
  | .sl _ xs => (elt P t).isSome = true ∧ K (.int .i64 xs.length)
  | .ar q _ len => match m[q]? with
    | some (.arr _ _ _) => (elt P t).isSome = true ∧ K (.int .i64 len)
    | _ => False
  | .arc q _ len _ => match m[q]? with
    | some (.arr _ _ _) => (elt P t).isSome = true ∧ K (.int .i64 len)
    | _ => False
  | .nil => (elt P t).isSome = true ∧ K (.int .i64 0)
  | _ => False
def capVC (P : Program) (t : TypeId) (m : List Ob) (x : V) (K : V → Prop) : Prop := match x with
  | .arc q _ _ cap => match m[q]? with
    | some (.arr _ _ _) => (elt P t).isSome = true ∧ K (.int .i64 cap)
    | _ => False
  | _ => False
def biVC (P : Program) (b : Builtin) (ts : Array TypeId) (m : List Ob) (xs : List V) (K : V → Prop) : Prop := match b, xs with
  | .len, [x] => match ts.toList with
    | [t] => lenVC P t m x K
    | _ => False
  | .cap, [x] => match ts.toList with
    | [t] => capVC P t m x K
    | _ => False
  | .min, [x, y] => match mm false x y with
    | some r => K r
    | none => False
  | .max, [x, y] => match mm true x y with
    | some r => K r
    | none => False
  | _, _ => False
def srcV (m : List Ob) (sz : Nat) : V → Option (List (List V))
  | .str s => if sz = 1 then some (bytesV s) else none
  | y => elemsV m y
/-- append(x, y...), where x has no room. -/
def ap0VC (P : Program) (t t' : TypeId) (m : List Ob) (base : Nat) (x y : V) (K : V → List Ob → Prop) : Prop := match elt P t with
  | some e => match lay P e, zer P e with
    | some (sz, _), some zs => match srcV m sz y with
      | some ys => 0 < sz ∧ zs.length = sz ∧ seqT P t' = true ∧ (x = .nil ∨ x = .e0) ∧ (∀ z ∈ ys, z.length = sz) ∧ ys.length * P.bytesOf e ≤ 2 ^ 47 ∧ ys.length ≤ 2 ^ 62 ∧ K (.ar base 0 ys.length) [.arr true sz ys]
      | none => False
    | _, _ => False
  | none => False
def apVC (P : Program) (c : Call) (ev : Operand → V) (m : List Ob) (base : Nat) (K : V → List Ob → Prop) : Prop := match c.args.toList, c.argTypes.toList with
  | [x, y], [t, t'] => ap0VC P t t' m base (ev x) (ev y) K
  | _, _ => False
def cVC (P : Program) (c : Call) (ev : Operand → V) (m : List Ob) (base : Nat) (K : V → List Ob → Prop) : Prop := match c.callee with
  | .builtin .append => apVC P c ev m base K
  | .builtin b => biVC P b c.argTypes m (c.args.toList.map ev) (fun r => K r [])
  | .value x => match ev x with
    | .fn f fs cs => callVC P f (fs ++ c.args.toList.map ev ++ cs) m base K
    | _ => False
  | .invoke _ _ => False
/-- What a quiet operation asks. -/
def Q1 (P : Program) (op : Op) (ev : Operand → V) (m : List Ob) (base : Nat) (K : V → List Ob → Prop) : Prop := match op with
  | .move x => K (ev x) []
  | .assign x => K (ev x) []
  | .pick c a b => match ev c with
    | .bool t => K (if t then ev a else ev b) []
    | _ => False
  | .alloc e => match zer P e with
    | some cs => K (.ptr base 0) [.box true cs]
    | none => False
  | .box _ x => boxVC m base K (ev x)
  | .build t ps => buildVC P t m ev ps.toList K
  | .buildSlice t len ps => bslVC P t len m base ev ps.toList K
  | .load t x => ldVC P t m (ev x) (fun r => K r [])
  | .nilCheck x => (ev x).notNil = true ∧ oneV m (ev x) = true ∧ K (ev x) []
  | .binOp op t x y _ => binVC P op t (ev x) (ev y) (fun r => K r [])
  | .unOp op _ x => unVC op (ev x) (fun r => K r [])
  | .convert s d x => convVC P s d m (ev x) (fun r => K r [])
  | .makeFunc fn fs cs => mkfVC ev fn fs cs (fun r => K r [])
  | .makeMap t r => r = none ∧ K (.map base) [.mp true [] []]
  | .makeSlice t x y => mksVC P t base (ev x) (ev y) K
  | .slice t x lo hi mx => sliceVC P t m ev (ev x) lo hi mx (fun r => K r [])
  | .fieldAddr s x f => faddrVC P s f m (ev x) (fun r => K r [])
  | .field t x f => fieldVC P t f (ev x) (fun r => K r [])
  | .indexAddr t x y => iaddrVC P t m (ev x) (ev y) (fun r => K r [])
  | .index t x y => indexVC P t (ev x) (ev y) (fun r => K r [])
  | .extract x i => extrVC (ev x) i (fun r => K r [])
  | .call c => cVC P c ev m base K
  | _ => False

section
variable {P : Program} {o : Oper} {ev : Operand → V} {mT : List Ob} {base : Nat} {K : V → List Ob → Prop}
theorem bslice_sound {t : TypeId} {len : Nat} {ps : Array (Nat × Operand)} (ho : o.op = .buildSlice t len ps) (h : bsliceVC P t len mT base ev ps.toList K) : Goal P o ev mT base K := by
  unfold bsliceVC at h
  split at h
  · rename_i e he
    split at h
    · rename_i sz ag zs h1 h2
      split at h
      · rename_i xs h3; exact q_buildSlice ho he h1 h.1 h2 h3 h.2.1 h.2.2.1 h.2.2.2
      · exact h.elim
    · exact h.elim
  · exact h.elim
theorem src_of {sz : Nat} {y : V} {ys : List (List V)} (h : srcV mT sz y = some ys) (hl : ∀ z ∈ ys, z.length = sz) : Src P mT sz y ys := by
  unfold srcV at h
  split at h
  · split at h
    · rename_i hs; subst hs
      simp only [Option.some.injEq] at h; subst h
      exact src_str
    · cases h
  · exact src_elems h hl
theorem ap_sound {c : Call} (ho : o.op = .call c) (hc : c.callee = .builtin .append) (h : apVC P c ev mT base K) : Goal P o ev mT base K := by
  obtain ⟨callee, args, ts⟩ := c
  simp only at hc
  subst hc
  unfold apVC at h
  split at h
  · rename_i x y t t' ha ht
    simp only at ha ht
    have hargs : args = #[x, y] := by obtain ⟨l⟩ := args; simp at ha; subst ha; rfl
    have hts : ts = #[t, t'] := by obtain ⟨l⟩ := ts; simp at ht; subst ht; rfl
    subst hargs; subst hts
    unfold ap0VC at h
    split at h
    · rename_i e he
      split at h
      · rename_i sz ag zs hl hz
        split at h
        · rename_i ys hy
          obtain ⟨a1, a2, a3, a4, a5, a6, a7, a8⟩ := h
          exact q_append0 ho he hl a1 hz a2 a3 a4 (src_of hy a5) a5 a6 a7 a8
        · exact h.elim
      · exact h.elim
    · exact h.elim
  · exact h.elim
theorem Q1_sound (h : Q1 P o.op ev mT base K) : Goal P o ev mT base K := by
  cases ho : o.op <;> rw [ho] at h <;> simp only [Q1] at h
  case move x => exact q_move ho h
  case assign x => exact q_assign ho h
  case pick c a b =>
    split at h
    · rename_i t hc; exact q_pick ho hc h
    · exact h.elim
  case alloc e =>
    split at h
    · rename_i cs hz; exact q_alloc ho hz h
    · exact h.elim
  case box e x =>
    unfold boxVC at h
    split at h
    · rename_i cs hc; exact q_box ho hc h
    · exact q_box1 ho h.1 h.2
  case build t ps =>
    unfold buildVC at h
    split at h
    · rename_i zs ps' h1 h2
      split at h
      · rename_i cs h3; exact q_build ho h1 h.1 h2 h3 h.2
      · exact h.elim
    · exact h.elim
  case buildSlice t len ps =>
    unfold bslVC at h
    split at h
    · rename_i hps
      split at h
      · rename_i e he
        split at h
        · rename_i p zs h1 h2
          obtain ⟨sz, ag⟩ := p
          exact q_build0 ho he h1 h2 hps h
        · exact h.elim
      · exact h.elim
    · exact bslice_sound ho h
  case load t x => exact q_load ho h
  case nilCheck x => exact q_nilCheck ho h.1 h.2.1 h.2.2
  case binOp op t x y u =>
    unfold binVC at h
    split at h
    · rename_i r hr; exact q_bin ho hr h
    · split at h
      · rename_i r hr; exact q_binb ho h.1 hr h.2
      · exact h.elim
  case unOp op t x =>
    unfold unVC at h
    split at h
    · rename_i b hb; exact q_not ho hb h
    · rename_i k n hb; exact q_neg ho hb h
    · rename_i k n hb; exact q_xor ho hb h
    · exact h.elim
  case convert s d x =>
    unfold convVC at h
    split at h
    · rename_i k' n hx
      split at h
      · rename_i k hk; exact q_conv ho h.1 hk hx h.2
      · exact h.elim
    · obtain ⟨ns, e, h1, h2, h3, h4, h5⟩ := h
      exact q_bytesStr ho h1 h2 h3 h4 h5
  case makeFunc fn fs cs =>
    unfold mkfVC at h
    split at h
    · exact q_makeFunc ho h
    · exact h.elim
  case makeMap t r => exact q_makeMap ho (.inl h.1) h.2
  case makeSlice t x y =>
    unfold mksVC at h
    split at h
    · rename_i e he
      split at h
      · rename_i sz ag zs h1 h2
        split at h
        · rename_i k n k' n' h3 h4
          obtain ⟨rfl, a1, a2, a3, a4, a5, a6⟩ := h
          exact q_makeSlice ho he h1 a1 h2 a2 h3 h4 a3 a4 a5 a6
        · exact h.elim
      · exact h.elim
    · exact h.elim
  case slice t x lo hi mx =>
    unfold sliceVC at h
    split at h
    · split at h
      · split at h
        · rename_i q off len cap hx
          split at h
          · rename_i e he
            split at h
            · rename_i sz' ag kl l kh hh km k lv sz xs h0 h1 h2 h3 h4
              obtain ⟨rfl, a1, a2, a3, a4, a5⟩ := h
              exact q_slice3 ho he h0 hx h4 h1 h2 h3 a1 a2 a3 a4 a5
            · exact h.elim
          · exact h.elim
        · exact h.elim
      · exact h.elim
    · split at h
      · rename_i s hx
        split at h
        · rename_i l hh h1 h2
          exact q_slice_str ho h.1 hx h1 h2 h.2.1 h.2.2.1 h.2.2.2.1 h.2.2.2.2
        · exact h.elim
      · rename_i sz xs hx
        split at h
        · rename_i e he
          split at h
          · rename_i sz' ag l hh h0 h1 h2
            obtain ⟨rfl, a1, a2, a3, a4⟩ := h
            exact q_slice_sl ho he h0 hx h1 h2 a1 a2 a3 a4
          · exact h.elim
        · exact h.elim
      · rename_i q off len hx
        split at h
        · rename_i e he
          split at h
          · rename_i sz' ag l hh lv sz xs h0 h1 h2 h3
            obtain ⟨rfl, a1, a2, a3, a4⟩ := h
            exact q_slice_ar ho he h0 hx h3 h1 h2 a1 a2 a3 a4
          · exact h.elim
        · exact h.elim
      · rename_i q off len cap hx
        split at h
        · rename_i e he
          split at h
          · rename_i sz' ag l hh lv sz xs h0 h1 h2 h3
            obtain ⟨rfl, a1, a2, a3, a4, a5⟩ := h
            exact q_slice_arc ho he h0 hx h3 h1 h2 a1 a2 a3 a4 a5
          · exact h.elim
        · exact h.elim
      · rename_i hx
        split at h
        · rename_i e he
          split at h
          · rename_i lz l hh h0 h1 h2
            obtain ⟨rfl, rfl, a4⟩ := h
            obtain ⟨sz, ag⟩ := lz
            exact q_slice_nil ho he h0 hx h1 h2 a4
          · exact h.elim
        · exact h.elim
      · exact h.elim
  case fieldAddr s x f =>
    unfold faddrVC at h
    split at h
    · rename_i off n ag hf
      split at h
      · rename_i r hr; exact q_fieldAddr ho hf h.1 hr h.2.1 h.2.2
      · exact h.elim
    · exact h.elim
  case field t x f =>
    unfold fieldVC at h
    split at h
    · rename_i off n ag hf
      split at h
      · rename_i cs hc; exact q_field ho hf hc h
      · exact h.elim
    · exact h.elim
  case indexAddr t x y =>
    unfold iaddrVC at h
    split at h
    · rename_i e he
      split at h
      · rename_i sz ag hl
        split at h
        · rename_i sz' xs k i h1 h2
          obtain ⟨rfl, a1, a2, a3⟩ := h
          exact q_index_sl ho he hl h1 h2 a1 a2 a3
        · rename_i q off len k i h1 h2
          split at h
          · rename_i lv sz' xs h3
            obtain ⟨rfl, a1, a2, a3⟩ := h
            exact q_index_ar ho he hl h1 h3 h2 a1 a2 a3
          · exact h.elim
        · exact h.elim
      · exact h.elim
    · exact h.elim
  case index t x y =>
    unfold indexVC at h
    split at h
    · rename_i s k i h1 h2
      exact q_index_str ho h.1 h1 h2 h.2.1 h.2.2.1 h.2.2.2
    · exact h.elim
  case extract x i =>
    unfold extrVC at h
    split at h
    · rename_i vs hv; exact q_extract ho hv h.1 h.2
    · exact h.elim
  case call c =>
    obtain ⟨callee, args, ts⟩ := c
    unfold cVC at h
    cases callee with
    | invoke r n => exact h.elim
    | value x =>
      simp only at h
      split at h
      · rename_i f fs cs hf
        obtain ⟨r, mr, a1, a3, a4, a5⟩ := h
        have hbd : ∃ fn, P.funcs[f]? = some fn ∧ fn.body.isSome = true ∧ (fn.name == "runtime.NumGoroutine") = false := by
          unfold bodyOK at a4
          split at a4
          · rename_i fn hfn
            simp only [Bool.and_eq_true, Bool.not_eq_true'] at a4
            exact ⟨fn, hfn, a4.1, a4.2⟩
          · cases a4
        rcases a1 with ⟨a1, a2⟩ | ⟨a1, a2, b1, b2⟩
        · exact q_call ho hf hbd a2 a1 a3 a5
        · exact q_callF ho hf hbd a2 a1 b1 b2 a3 a5
      · exact h.elim
    | builtin b =>
      by_cases hba : b = .append
      · subst hba
        exact ap_sound ho rfl h
      replace h : biVC P b ts mT (args.toList.map ev) (fun r => K r []) := by
        cases b <;> first | exact absurd rfl hba | exact h
      unfold biVC at h
      split at h
      · rename_i b' xs x hxs
        split at h
        · rename_i t ht
          have hargs : ∃ y, args = #[y] ∧ ev y = x := by
            have := congrArg List.length hxs
            obtain ⟨l⟩ := args
            match l, hxs with
            | [y], hxs => exact ⟨y, rfl, by simpa using hxs⟩
          obtain ⟨y, rfl, hy⟩ := hargs
          have hts : ts = #[t] := by
            obtain ⟨l⟩ := ts
            simp at ht; subst ht; rfl
          subst hts
          unfold lenVC at h
          subst hy
          split at h
          · rename_i s hs
            exact q_len ho (.inl h.1) (by rw [hs]; rfl) (by rw [hs]; exact ⟨h.1, rfl⟩) h.2
          · rename_i sz zs hs
            exact q_len ho (.inr h.1) (by rw [hs]; rfl) (by rw [hs]; exact ⟨h.1, rfl⟩) h.2
          · rename_i q off len hs
            split at h
            · rename_i lv sz zs hq
              exact q_len ho (.inr h.1) (by rw [hs]; rfl) (by rw [hs]; exact ⟨h.1, rfl, lv, sz, zs, hq⟩) h.2
            · exact h.elim
          · rename_i q off len cap hs
            split at h
            · rename_i lv sz zs hq
              exact q_len ho (.inr h.1) (by rw [hs]; rfl) (by rw [hs]; exact ⟨h.1, rfl, lv, sz, zs, hq⟩) h.2
            · exact h.elim
          · rename_i hs
            exact q_len ho (.inr h.1) (by rw [hs]; rfl) (by rw [hs]; exact ⟨h.1, rfl⟩) h.2
          · exact h.elim
        · exact h.elim
      · rename_i b' xs x hxs
        split at h
        · rename_i t ht
          have hargs : ∃ y, args = #[y] ∧ ev y = x := by
            have := congrArg List.length hxs
            obtain ⟨l⟩ := args
            match l, hxs with
            | [y], hxs => exact ⟨y, rfl, by simpa using hxs⟩
          obtain ⟨y, rfl, hy⟩ := hargs
          have hts : ts = #[t] := by
            obtain ⟨l⟩ := ts
            simp at ht; subst ht; rfl
          subst hts
          unfold capVC at h
          subst hy
          split at h
          · rename_i q off len cap hs
            split at h
            · rename_i lv sz zs hq
              exact q_cap ho h.1 hs hq h.2
            · exact h.elim
          · exact h.elim
        · exact h.elim
      · rename_i b' xs x y hxs
        split at h
        · rename_i r hr
          have hargs : ∃ x' y', args = #[x', y'] ∧ ev x' = x ∧ ev y' = y := by
            obtain ⟨l⟩ := args
            match l, hxs with
            | [x', y'], hxs => simp at hxs; exact ⟨x', y', rfl, hxs.1, hxs.2⟩
          obtain ⟨x', y', rfl, rfl, rfl⟩ := hargs
          exact q_mm (gt := false) ho hr h
        · exact h.elim
      · rename_i b' xs x y hxs
        split at h
        · rename_i r hr
          have hargs : ∃ x' y', args = #[x', y'] ∧ ev x' = x ∧ ev y' = y := by
            obtain ⟨l⟩ := args
            match l, hxs with
            | [x', y'], hxs => simp at hxs; exact ⟨x', y', rfl, hxs.1, hxs.2⟩
          obtain ⟨x', y', rfl, rfl, rfl⟩ := hargs
          exact q_mm (gt := true) ho hr h
        · exact h.elim
      · exact h.elim
end
end Go.Pm
