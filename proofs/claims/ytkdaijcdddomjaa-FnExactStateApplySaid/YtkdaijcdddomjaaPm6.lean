/- The abstract machine: conditions for each quiet operation, and that they suffice. -/
import Derived.Test.YtkdaijcdddomjaaPm5
import Derived.Laws.Strings
set_option linter.unusedVariables false
namespace Go.Pm
open Go.RowKit

/-- An operation on two numbers. -/
def intV (op : BinOp) (k : IntKind) (a b : Int) : Option V := match op with
  | .add => some (.int k (k.wrap (a + b)))
  | .sub => some (.int k (k.wrap (a - b)))
  | .mul => some (.int k (k.wrap (a * b)))
  | .quo => if b = 0 then none else some (.int k (k.wrap (a.tdiv b)))
  | .rem => if b = 0 then none else some (.int k (a.tmod b))
  | .and => some (.int k (k.wrap (BitVec.ofInt k.bits a &&& BitVec.ofInt k.bits b).toNat))
  | .or => some (.int k (k.wrap (BitVec.ofInt k.bits a ||| BitVec.ofInt k.bits b).toNat))
  | .xor => some (.int k (k.wrap (BitVec.ofInt k.bits a ^^^ BitVec.ofInt k.bits b).toNat))
  | .andNot => some (.int k (k.wrap (BitVec.ofInt k.bits a &&& ~~~ BitVec.ofInt k.bits b).toNat))
  | .eql => some (.bool (a == b))
  | .neq => some (.bool (a != b))
  | .lss => some (.bool (decide (a < b)))
  | .leq => some (.bool (decide (a ≤ b)))
  | .gtr => some (.bool (decide (a > b)))
  | .geq => some (.bool (decide (a ≥ b)))
  | _ => none
def strV (op : BinOp) (a b : ByteArray) : Option V := match op with
  | .add => if a.size + b.size ≤ 2 ^ 62 then some (.str (a ++ b)) else none
  | .eql => some (.bool (a.toList == b.toList))
  | .neq => some (.bool (!(a.toList == b.toList)))
  | _ => none
/-- Two values of one cell each, compared. -/
def cellEq : V → V → Option Bool
  | .int k a, .int k' b => if k = k' then some (a == b) else none
  | .bool a, .bool b => some (a == b)
  | .str a, .str b => some (a.toList == b.toList)
  | _, _ => none
def binV (op : BinOp) : V → V → Option V
  | .int k a, .int k' b => match op with
    | .shl => if b < 0 then none else some (.int k (k.wrap (a * 2 ^ min b.toNat k.bits)))
    | .shr => if b < 0 then none else some (.int k (a.fdiv (2 ^ min b.toNat k.bits)))
    | op => if k = k' then intV op k a b else none
  | .str a, .str b => strV op a b
  | _, _ => none
theorem run_binV {P : Program} {w : World} {c : Cx} {op : BinOp} {t : TypeId} {x y r : V} {u v : Value} (h : binV op x y = some r) (hx : RV c x u) (hy : RV c y v) (xo yo : Operand) :
    ∃ z, ((do eqGuard op t xo yo u v; binOp op t u v) : Sem Value).run P w = .ok z w ∧ RV c r z := by
  unfold binV at h
  split at h
  · rename_i k a k' b
    have hu : u = .int k a := hx
    have hv : v = .int k' b := hy
    subst hu; subst hv
    have hg : (eqGuard op t xo yo (.int k a) (.int k' b)).run P w = .ok () w := by
      unfold eqGuard
      cases op <;> simp
    simp only [Sem.run_bind, hg, Result.andThen_ok]
    split at h
    · split at h
      · cases h
      · rename_i hb
        simp only [Option.some.injEq] at h; subst h
        refine ⟨_, ?_, rfl⟩
        simp [binOp, Op.shift, hb]
    · split at h
      · cases h
      · rename_i hb
        simp only [Option.some.injEq] at h; subst h
        refine ⟨_, ?_, rfl⟩
        simp [binOp, Op.shift, hb]
    · rename_i h1 h2
      split at h
      · rename_i hk; subst hk
        cases op <;> simp only [intV] at h <;> first
          | (exact absurd rfl h1)
          | (exact absurd rfl h2)
          | (cases h; done)
          | (simp only [Option.some.injEq] at h; subst h; refine ⟨_, ?_, rfl⟩; simp [binOp, Op.intArith, Op.intBits, Op.intCmp]; done)
          | (split at h
             · cases h
             · rename_i hb; simp only [Option.some.injEq] at h; subst h; refine ⟨_, ?_, rfl⟩; simp [binOp, Op.intDiv, hb])
      · cases h
  · rename_i a b
    have hu : u = .string a := hx
    have hv : v = .string b := hy
    subst hu; subst hv
    have hg : (eqGuard op t xo yo (.string a) (.string b)).run P w = .ok () w := by
      unfold eqGuard
      cases op <;> simp
    simp only [Sem.run_bind, hg, Result.andThen_ok]
    cases op <;> simp only [strV] at h <;> first
      | (cases h; done)
      | (simp only [Option.some.injEq] at h; subst h; refine ⟨_, ?_, rfl⟩; simp [binOp, Op.stringOp]; done)
      | (split at h
         · rename_i hb
           simp only [Option.some.injEq] at h; subst h
           refine ⟨_, ?_, rfl⟩
           have : ¬ ((a.size + b.size : Nat) : Int) > IntKind.i64.max := by
             have : IntKind.i64.max = 9223372036854775807 := rfl
             omega
           simp only [binOp, Op.stringOp]
           rw [if_neg this]
           rfl
         · cases h)
  · cases h

/-- An operation on two bools. -/
def boolV (op : BinOp) : V → V → Option V
  | .bool a, .bool b => match op with
    | .eql => some (.bool (a == b))
    | .neq => some (.bool (a != b))
    | _ => none
  | _, _ => none
theorem run_equalIn_bool {P : Program} {w : World} {t : TypeId} (ht : P.underlying t = some .bool) (d : Nat) (a b : Bool) : (Op.equalIn (d + 1) t (.bool a) (.bool b)).run P w = .ok (a == b) w := by
  simp [Op.equalIn, run_und ht]
theorem run_equal_bool {P : Program} {w : World} {t : TypeId} (ht : P.underlying t = some .bool) (a b : Bool) : (Op.equal t (.bool a) (.bool b)).run P w = .ok (a == b) w := run_equalIn_bool ht 9999 a b
theorem run_boolV {P : Program} {w : World} {c : Cx} {op : BinOp} {t : TypeId} {x y r : V} {u v : Value} (ht : P.underlying t = some .bool) (h : boolV op x y = some r) (hx : RV c x u) (hy : RV c y v) (xo yo : Operand) :
    ∃ z, ((do eqGuard op t xo yo u v; binOp op t u v) : Sem Value).run P w = .ok z w ∧ RV c r z := by
  unfold boolV at h
  split at h
  · rename_i a b
    have hu : u = .bool a := hx
    have hv : v = .bool b := hy
    subst hu; subst hv
    have hg : (eqGuard op t xo yo (.bool a) (.bool b)).run P w = .ok () w := by
      unfold eqGuard
      cases op <;> simp
    simp only [Sem.run_bind, hg, Result.andThen_ok]
    split at h
    · simp only [Option.some.injEq] at h; subst h
      refine ⟨_, ?_, rfl⟩
      show ((do pure (.bool (← Op.equal t (.bool a) (.bool b)))) : Sem Value).run P w = _
      simp only [Sem.run_bind, run_equal_bool ht, Result.andThen_ok, Sem.run_pure]
    · simp only [Option.some.injEq] at h; subst h
      refine ⟨_, ?_, rfl⟩
      show ((do pure (.bool (!(← Op.equal t (.bool a) (.bool b))))) : Sem Value).run P w = _
      simp only [Sem.run_bind, run_equal_bool ht, Result.andThen_ok, Sem.run_pure]
      rfl
    · cases h
  · cases h

def isBoolT (P : Program) (t : TypeId) : Bool := match P.underlying t with
  | some .bool => true
  | _ => false
def isStrT (P : Program) (t : TypeId) : Bool := match P.underlying t with
  | some .string => true
  | _ => false
def intT (P : Program) (t : TypeId) : Option IntKind := match P.underlying t with
  | some (.int k) => some k
  | _ => none
def hasT (P : Program) (t : TypeId) : Bool := (P.underlying t).isSome

/-- A byte of a string. -/
def byteAt (s : ByteArray) (i : Nat) : Int := ((s[i]?).map fun b => (b.toNat : Int)).getD 0
/-- A read out of cells. -/
def rdVC (ag : Bool) (sz : Nat) (cs : List V) (K : V → Prop) : Prop := if ag then sz ≤ cs.length ∧ K (.agg (cs.take sz)) else 0 < cs.length ∧ K (cs.getD 0 .junk)
def ldVC (P : Program) (t : TypeId) (m : List Ob) (x : V) (K : V → Prop) : Prop := match lay P t with
  | some (sz, ag) => match x with
    | .ptr o off => match m[o]? with
      | some (.box _ cs) => rdVC ag sz (cs.drop off) K
      | _ => False
    | .eptr o i off => match m[o]? with
      | some (.arr _ _ xs) => i < xs.length ∧ rdVC ag sz ((xs.getD i []).drop off) K
      | _ => False
    | .sptr _ xs i off => i < xs.length ∧ rdVC ag sz ((xs.getD i []).drop off) K
    | .fptr cs off => rdVC ag sz (cs.drop off) K
    | _ => False
  | none => False
/-- Parts laid over a struct's zero value. -/
def fillV (P : Program) (t : TypeId) (ev : Operand → V) : List V → List (Nat × Operand) → Option (List V)
  | cs, [] => some cs
  | cs, (i, x) :: r => match fld P t i with
    | some (off, n, ag) =>
      if off + n ≤ cs.length then
        if ag then match ev x with
          | .agg ys => if ys.length = n then fillV P t ev (cs.take off ++ ys ++ cs.drop (off + n)) r else none
          | _ => none
        else if n = 1 then match ev x with
          | .agg _ => none
          | .tup _ => none
          | .junk => none
          | y => fillV P t ev (cs.take off ++ [y] ++ cs.drop (off + n)) r
        else none
      else none
    | none => none
/-- A pointer's step to a field. -/
def V.step (off : Nat) : V → Option V
  | .ptr o p => some (.ptr o (p + off))
  | .eptr o i p => some (.eptr o i (p + off))
  | .sptr sz xs i p => some (.sptr sz xs i (p + off))
  | .fptr cs p => some (.fptr cs (p + off))
  | _ => none
def V.notNil : V → Bool
  | .ptr _ _ => true
  | .eptr _ _ _ => true
  | .sptr _ _ _ _ => true
  | .fptr _ _ => true
  | .fn _ _ _ => true
  | _ => false
/-- A bound of a slice expression. -/
def bnd (ev : Operand → V) (d : Int) : Option Operand → Option Int
  | none => some d
  | some x => match ev x with
    | .int _ n => some n
    | _ => none
def lenV (m : List Ob) : V → Option Int
  | .str s => some s.size
  | .sl _ xs => some xs.length
  | .ar _ _ n => some n
  | .nil => some 0
  | _ => none
def mm (gt : Bool) : V → V → Option V
  | .int k x, .int k' y => some (.int k (if (if gt then x < y else y < x) then y else x))
  | _, _ => none
end Go.Pm
