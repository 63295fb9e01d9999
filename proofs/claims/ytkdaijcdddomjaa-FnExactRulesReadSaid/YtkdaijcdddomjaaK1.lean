/- Numbers in bytes: the plain law of the decoding of a number. No conditions but bounds of numbers. -/
import Derived.Test.YtkdaijcdddomjaaJ4
namespace Go.Proofs.Ytkdaijcdddomjaa
open Go.Pm
set_option maxRecDepth 10000
set_option linter.unusedSimpArgs false
set_option linter.unusedVariables false
structure GN where
  n : Int
  pos : Int
  code : Int
def encGN (g : GN) : V := .agg [.int .i64 g.n, .int .i64 g.pos, .int .i64 g.code]
def unzig (u : Int) : Int := if u % 2 = 1 then -(u / 2) - 1 else u / 2
def gnGo (t : ByteArray) (a : Nat) : Nat → Nat → Int → GN
  | 0, _, _ => ⟨0, 0, 3⟩
  | f + 1, i, u => if t.size ≤ a + i then ⟨0, 0, 4⟩ else
    if i = 9 ∧ 1 < byteAt t (a + i) then ⟨0, 0, 3⟩ else
    if byteAt t (a + i) < 128 then
      if byteAt t (a + i) = 0 ∧ 0 < i then ⟨0, 0, 3⟩ else ⟨unzig (u + byteAt t (a + i) % 128 * 2 ^ (7 * i)), (a + i + 1 : Nat), 0⟩
    else gnGo t a f (i + 1) (u + byteAt t (a + i) % 128 * 2 ^ (7 * i))
def getN (t : ByteArray) (a : Nat) : GN := gnGo t a 10 0 0
theorem byteAt_b (t : ByteArray) (i : Nat) : 0 ≤ byteAt t i ∧ byteAt t i < 256 := by
  unfold byteAt
  cases t[i]? with
  | none => simp
  | some b =>
    simp
    have := b.toNat_lt
    omega
theorem pow7 {i : Nat} (h : i ≤ 9) : (2 : Int) ^ (7 * i) * 128 = 2 ^ (7 * (i + 1)) ∧ (0 : Int) < 2 ^ (7 * i) ∧ (2 : Int) ^ (7 * i) ≤ 2 ^ 63 := by
  have : i = 0 ∨ i = 1 ∨ i = 2 ∨ i = 3 ∨ i = 4 ∨ i = 5 ∨ i = 6 ∨ i = 7 ∨ i = 8 ∨ i = 9 := by omega
  rcases this with rfl | rfl | rfl | rfl | rfl | rfl | rfl | rfl | rfl | rfl <;> decide
theorem pow7' {i : Nat} (h : i ≤ 8) : (2 : Int) ^ (7 * (i + 1)) ≤ 2 ^ 63 := (pow7 (by omega : i + 1 ≤ 9)).2.2
theorem u64_id {n : Int} (h1 : 0 ≤ n) (h2 : n < 18446744073709551616) : IntKind.u64.wrap n = n := by
  simp [IntKind.wrap, IntKind.bits, IntKind.signed]
  omega
/-- What a byte adds. -/
theorem part_b {i : Nat} {c : Int} (hi : i ≤ 9) (hc : 0 ≤ c ∧ c < 256) (h9 : ¬ (i = 9 ∧ 1 < c)) : 0 ≤ c % 128 * 2 ^ (7 * i) ∧ c % 128 * 2 ^ (7 * i) ≤ 2 ^ 63 ∧ (i ≤ 8 → c % 128 * 2 ^ (7 * i) + 2 ^ (7 * i) ≤ 2 ^ (7 * (i + 1))) := by
  have h0 := pow7 hi
  have hm : 0 ≤ c % 128 ∧ c % 128 ≤ 127 := by omega
  generalize hp : (2 : Int) ^ (7 * i) = p at *
  refine ⟨Int.mul_nonneg hm.1 (by omega), ?_, fun h8 => ?_⟩
  · by_cases h8 : i ≤ 8
    · have := pow7' h8
      have : c % 128 * p ≤ 127 * p := Int.mul_le_mul_of_nonneg_right hm.2 (by omega)
      omega
    · have hi9 : i = 9 := by omega
      have hc1 : c % 128 ≤ 1 := by omega
      have : c % 128 * p ≤ 1 * p := Int.mul_le_mul_of_nonneg_right hc1 (by omega)
      omega
  · have : c % 128 * p ≤ 127 * p := Int.mul_le_mul_of_nonneg_right hm.2 (by omega)
    omega
theorem spec_part {i : Nat} {c u : Int} (hi : i ≤ 9) (hc : 0 ≤ c ∧ c < 256) (h9 : ¬ (i = 9 ∧ 1 < c)) (hu : 0 ≤ u ∧ u < 2 ^ (7 * i)) :
    IntKind.u64.wrap (u + IntKind.u64.wrap (c.tmod 128 * 2 ^ min (IntKind.u64.wrap (IntKind.i64.wrap (7 * (i : Int)))).toNat IntKind.u64.bits)) = u + c % 128 * 2 ^ (7 * i) := by
  have h0 := pow7 hi
  have hb := part_b hi hc h9
  have e : min (IntKind.u64.wrap (IntKind.i64.wrap (7 * (i : Int)))).toNat IntKind.u64.bits = 7 * i := by
    rw [wrap_id (by omega) (by omega), u64_id (by omega) (by omega)]
    simp only [IntKind.bits]
    omega
  rw [e, Int.tmod_eq_emod_of_nonneg hc.1, u64_id (n := c % 128 * 2 ^ (7 * i)) (by omega) (by omega)]
  exact u64_id (by omega) (by omega)
theorem and127 : ∀ c : Fin 256, IntKind.u8.wrap ((BitVec.ofInt IntKind.u8.bits (c.val : Int) &&& BitVec.ofInt IntKind.u8.bits 127).toNat : Int) = (c.val : Int) % 128 := by decide +kernel
theorem and127' {c : Int} (hc : 0 ≤ c ∧ c < 256) : IntKind.u8.wrap ((BitVec.ofInt IntKind.u8.bits c &&& BitVec.ofInt IntKind.u8.bits 127).toNat : Int) = c % 128 := by
  have := and127 ⟨c.toNat, by omega⟩
  simp only at this
  rwa [Int.toNat_of_nonneg hc.1] at this
theorem or_add {i : Nat} {u x : Int} (hu : 0 ≤ u ∧ u < 2 ^ (7 * i)) (hx : 0 ≤ x) (hb : x * 2 ^ (7 * i) ≤ 2 ^ 63) (hp : (2 : Int) ^ (7 * i) ≤ 2 ^ 63) :
    IntKind.u64.wrap ((BitVec.ofInt IntKind.u64.bits u ||| BitVec.ofInt IntKind.u64.bits (x * 2 ^ (7 * i))).toNat : Int) = u + x * 2 ^ (7 * i) := by
  obtain ⟨a, rfl⟩ := Int.eq_ofNat_of_zero_le hu.1
  obtain ⟨b, rfl⟩ := Int.eq_ofNat_of_zero_le hx
  have hx' : ((b : Int) * 2 ^ (7 * i)) = ((2 ^ (7 * i) * b : Nat) : Int) := by
    rw [Int.natCast_mul, Int.natCast_pow, Int.mul_comm]; rfl
  have hu' : a < 2 ^ (7 * i) := by
    have := hu.2
    have e : ((2 : Int) ^ (7 * i)) = ((2 ^ (7 * i) : Nat) : Int) := by simp
    rw [e] at this
    exact Int.ofNat_lt.1 this
  rw [hx'] at hb ⊢
  have hb' : 2 ^ (7 * i) * b ≤ 2 ^ 63 := by
    have : ((2 ^ (7 * i) * b : Nat) : Int) ≤ ((2 ^ 63 : Nat) : Int) := by simpa using hb
    exact Int.ofNat_le.1 this
  have hp' : 2 ^ (7 * i) ≤ 2 ^ 63 := by
    have : ((2 ^ (7 * i) : Nat) : Int) ≤ ((2 ^ 63 : Nat) : Int) := by simpa using hp
    exact Int.ofNat_le.1 this
  have h63 : (2 : Nat) ^ 63 = 9223372036854775808 := rfl
  rw [BitVec.toNat_or]
  simp only [IntKind.bits, BitVec.toNat_ofInt]
  have e1 : ((a : Int) % ((2 ^ 64 : Nat) : Int)).toNat = a := by omega
  have e2 : (((2 ^ (7 * i) * b : Nat) : Int) % ((2 ^ 64 : Nat) : Int)).toNat = 2 ^ (7 * i) * b := by
    generalize 2 ^ (7 * i) * b = z at *
    omega
  rw [e1, e2, Nat.or_comm, ← Nat.two_pow_add_eq_or_of_lt hu']
  rw [u64_id (by omega) (by omega)]
  omega
theorem impl_part {i : Nat} {c u : Int} (hi : i ≤ 9) (hc : 0 ≤ c ∧ c < 256) (h9 : ¬ (i = 9 ∧ 1 < c)) (hu : 0 ≤ u ∧ u < 2 ^ (7 * i)) :
    IntKind.u64.wrap ((BitVec.ofInt IntKind.u64.bits u ||| BitVec.ofInt IntKind.u64.bits (IntKind.u64.wrap (IntKind.u64.wrap (c % 128) * 2 ^ min (IntKind.i64.wrap (7 * (i : Int))).toNat IntKind.u64.bits))).toNat : Int) = u + c % 128 * 2 ^ (7 * i) := by
  have h0 := pow7 hi
  have hb := part_b hi hc h9
  have e : min (IntKind.i64.wrap (7 * (i : Int))).toNat IntKind.u64.bits = 7 * i := by
    rw [wrap_id (by omega) (by omega)]
    simp only [IntKind.bits]
    omega
  rw [e, u64_id (n := c % 128) (by omega) (by omega), u64_id (n := c % 128 * 2 ^ (7 * i)) (by omega) (by omega)]
  exact or_add hu (by omega) hb.2.1 h0.2.2
theorem and1 {u : Int} (hu : 0 ≤ u ∧ u < 18446744073709551616) : IntKind.u64.wrap ((BitVec.ofInt IntKind.u64.bits u &&& BitVec.ofInt IntKind.u64.bits 1).toNat : Int) = u % 2 := by
  obtain ⟨a, rfl⟩ := Int.eq_ofNat_of_zero_le hu.1
  rw [BitVec.toNat_and]
  simp only [IntKind.bits, BitVec.toNat_ofInt]
  have e1 : ((a : Int) % ((2 ^ 64 : Nat) : Int)).toNat = a := by omega
  have e2 : ((1 : Int) % ((2 ^ 64 : Nat) : Int)).toNat = 1 := by omega
  rw [e1, e2, Nat.and_one_is_mod, u64_id (by omega) (by omega)]
  omega
theorem impl_end {u : Int} (hu : 0 ≤ u ∧ u < 18446744073709551616) :
    IntKind.i64.wrap ((BitVec.ofInt IntKind.i64.bits (IntKind.i64.wrap (u.fdiv (2 ^ min 1 IntKind.u64.bits))) ^^^ BitVec.ofInt IntKind.i64.bits (IntKind.i64.wrap (0 - IntKind.i64.wrap (u % 2)))).toNat : Int) = unzig u := by
  have e1 : u.fdiv (2 ^ min 1 IntKind.u64.bits) = u / 2 := by
    simp only [IntKind.bits]
    rw [Int.fdiv_eq_ediv_of_nonneg]
    · rfl
    · decide
  rw [e1, wrap_id (n := u / 2) (by omega) (by omega), wrap_id (n := u % 2) (by omega) (by omega)]
  unfold unzig
  rcases (by omega : u % 2 = 0 ∨ u % 2 = 1) with h | h
  · rw [h, if_neg (by omega)]
    have : BitVec.ofInt IntKind.i64.bits (IntKind.i64.wrap (0 - 0)) = 0#64 := rfl
    rw [this]
    show IntKind.i64.wrap ((BitVec.ofInt 64 (u / 2) ^^^ 0#64).toNat : Int) = _
    rw [BitVec.xor_zero, BitVec.toNat_ofInt, wrap_id (by omega) (by omega)]
    omega
  · rw [h, if_pos rfl]
    have : BitVec.ofInt IntKind.i64.bits (IntKind.i64.wrap (0 - 1)) = BitVec.allOnes 64 := rfl
    rw [this]
    show IntKind.i64.wrap ((BitVec.ofInt 64 (u / 2) ^^^ BitVec.allOnes 64).toNat : Int) = _
    rw [BitVec.xor_allOnes, BitVec.toNat_not, BitVec.toNat_ofInt]
    simp only [IntKind.wrap, IntKind.bits, IntKind.signed]
    simp
    omega
theorem spec_end {u : Int} (hu : 0 ≤ u ∧ u < 18446744073709551616) : IntKind.i64.wrap (IntKind.u64.wrap (u.tdiv 2)) = u / 2 ∧ IntKind.i64.wrap (IntKind.i64.wrap (0 - (u / 2)) - 1) = -(u / 2) - 1 := by
  rw [Int.tdiv_eq_ediv_of_nonneg hu.1, u64_id (by omega) (by omega), wrap_id (by omega) (by omega), wrap_id (n := 0 - (u / 2)) (by omega) (by omega), wrap_id (by omega) (by omega)]
  exact ⟨rfl, by omega⟩
end Go.Proofs.Ytkdaijcdddomjaa
