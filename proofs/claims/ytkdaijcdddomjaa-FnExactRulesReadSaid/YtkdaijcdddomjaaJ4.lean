/- RulesBytes of the reference and of the program. No conditions but lengths and bounds of numbers. -/
import Derived.Test.YtkdaijcdddomjaaJ2
import Derived.Test.YtkdaijcdddomjaaI6
import Derived.Test.YtkdaijcdddomjaaPm25
namespace Go.Proofs.Ytkdaijcdddomjaa
open Go.Pm
set_option maxRecDepth 10000
set_option linter.unusedSimpArgs false
set_option linter.unusedVariables false
/-! strings of bytes -/
theorem strOf_data (ns : List Int) : (strOf ns).data.toList = ns.map fun n => UInt8.ofNat n.toNat := by
  unfold strOf
  have : ∀ (ns : List Int) (s : ByteArray), (ns.foldl (fun r n => r.push (UInt8.ofNat n.toNat)) s).data.toList = s.data.toList ++ ns.map fun n => UInt8.ofNat n.toNat := by
    intro ns
    induction ns with
    | nil => intro s; simp
    | cons n ns ih =>
      intro s
      rw [List.foldl_cons, ih]
      simp [ByteArray.push]
  rw [this]
  rfl
theorem bytes_ext {a b : ByteArray} (h : a.data.toList = b.data.toList) : a = b := by
  cases a; cases b
  congr
  exact Array.ext' h
theorem strOf_append (a b : List Int) : strOf (a ++ b) = strOf a ++ strOf b := by
  apply bytes_ext
  rw [strOf_data, ByteArray.data_append, Array.toList_append, strOf_data, strOf_data, List.map_append]
def intsOf (s : ByteArray) : List Int := s.data.toList.map fun b => (b.toNat : Int)
theorem strOf_ints (s : ByteArray) : strOf (intsOf s) = s := by
  apply bytes_ext
  rw [strOf_data]
  unfold intsOf
  rw [List.map_map]
  have : ((fun n : Int => UInt8.ofNat n.toNat) ∘ fun b : UInt8 => (b.toNat : Int)) = id := by
    funext b
    simp
  rw [this, List.map_id]
theorem strOf_size (ns : List Int) : (strOf ns).size = ns.length := by
  have := congrArg List.length (strOf_data ns)
  simpa using this
def rowsOf (ns : List Int) : List (List V) := ns.map fun n => [.int .u8 n]
theorem bytesV_eq (s : ByteArray) : bytesV s = rowsOf (intsOf s) := by
  unfold bytesV rowsOf intsOf
  rw [List.map_map]
  rfl
theorem rowsOf_append (a b : List Int) : rowsOf (a ++ b) = rowsOf a ++ rowsOf b := List.map_append
theorem rowsOf_length (a : List Int) : (rowsOf a).length = a.length := List.length_map _
theorem rowsOf_len (ns : List Int) : (∀ z ∈ rowsOf ns, z.length = 1) = True := eq_true fun z hz => by
  obtain ⟨a, _, rfl⟩ := List.mem_map.1 hz; rfl
theorem rowsOf_one (m : List Ob) (ns : List Int) : (∀ z ∈ (rowsOf ns).flatten, oneV m z = true) = True := eq_true fun z hz => by
  obtain ⟨l, hl, hz⟩ := List.mem_flatten.1 hz
  obtain ⟨a, _, rfl⟩ := List.mem_map.1 hl
  rw [List.mem_singleton] at hz; rw [hz]; rfl
theorem rowsOf_refs (ok : Nat → Prop) (ns : List Int) : Refss ok (rowsOf ns) = True := eq_true (Refss_map fun a => ⟨trivial, trivial⟩)
theorem rowsOf_rens (ρ : Nat → Nat) (ns : List Int) : renss ρ (rowsOf ns) = rowsOf ns := renss_map fun a => ⟨trivial, trivial⟩
theorem rowsOf_take (ns : List Int) : List.take ns.length (rowsOf ns) = rowsOf ns := List.take_of_length_le (by rw [rowsOf_length]; exact Nat.le_refl _)
attribute [method_specs_simp ↓] rowsOf_len rowsOf_one
attribute [method_specs_simp] rowsOf_length rowsOf_refs rowsOf_rens rowsOf_take
theorem rows1 {z : Int} : List.take 1 (rowsOf [z]) = rowsOf [z] := nr rfl
attribute [method_specs_simp] rows1 decide_true decide_false bytesV_eq
theorem pure_rows (lv : Bool) (ns : List Int) : (Ob.arr lv 1 (rowsOf ns)).pure := Refss_map fun a => ⟨trivial, trivial⟩
/-! what is written -/
def textB (t : ByteArray) : ByteArray := strOf [2 * (t.size : Int)] ++ t
def ruleB (x : Rule) (t : ByteArray) : ByteArray := (((t ++ strOf [2 * x.kind]) ++ strOf [2 * x.n]) ++ strOf [2 * x.loud]) ++ textB x.text
def rulesB (xs : List Rule) : ByteArray := xs.foldl (fun t x => ruleB x t) (strOf [2 * (xs.length : Int)])
def ruleN (x : Rule) : List Int := [2 * x.kind, 2 * x.n, 2 * x.loud] ++ intsOf (textB x.text)
theorem ruleB_eq (x : Rule) (ns : List Int) : ruleB x (strOf ns) = strOf (ns ++ ruleN x) := by
  unfold ruleB ruleN
  rw [strOf_append, strOf_append, strOf_ints]
  have : strOf [2 * x.kind, 2 * x.n, 2 * x.loud] = (strOf [2 * x.kind] ++ strOf [2 * x.n]) ++ strOf [2 * x.loud] := by
    rw [← strOf_append, ← strOf_append]; rfl
  rw [this, ByteArray.append_assoc, ByteArray.append_assoc, ByteArray.append_assoc, ByteArray.append_assoc, ByteArray.append_assoc]
/-- What a right rule's numbers are bounded by. -/
theorem rule_bounds {x : Rule} (h : ruleI x = true) : 0 ≤ x.kind ∧ x.kind ≤ 5 ∧ 0 ≤ x.n ∧ x.n ≤ 6 ∧ 0 ≤ x.loud ∧ x.loud ≤ 2 ∧ x.text.size ≤ 10 := by
  unfold ruleI at h
  simp only [Bool.and_eq_true] at h
  obtain ⟨⟨⟨h1, h2⟩, h3⟩, h4⟩ := h
  simp only [isB, Bool.and_eq_true, decide_eq_true_eq] at h1 h2
  have h3' : 0 ≤ x.n ∧ x.n ≤ 6 := by
    unfold numOk at h3
    split at h3
    · simp only [isB, Bool.and_eq_true, decide_eq_true_eq] at h3; omega
    · split at h3
      · simp only [isB, Bool.and_eq_true, decide_eq_true_eq] at h3; omega
      · have := eq_of_beq h3; omega
  have h4' : x.text.size ≤ 10 := by
    unfold textOk at h4
    split at h4
    · simp only [isB, Bool.and_eq_true, decide_eq_true_eq] at h4; omega
    · have := (emptyB_iff _).1 h4; omega
  omega
section
variable {P : Program} [Is P]
theorem c145 (n : Int) (h0 : 0 ≤ n) (h1 : n < 64) : Con P 145 [.int .i64 n] (.int .u64 (2 * n)) := by
  refine Con.of (n := 14) (rs := [.tmp 2]) (Is.fn Try.func145) rfl (Is.call Try.call145) Try.results145 Try.ntmps145 trivial ?_
  have hn : decide (n < 0) = false := by simp; omega
  have e1 : IntKind.u64.wrap n = n := by simp [IntKind.wrap, IntKind.bits, IntKind.signed]; omega
  have e2 : IntKind.u64.wrap (2 * n) = 2 * n := by simp [IntKind.wrap, IntKind.bits, IntKind.signed]; omega
  simp (maxSteps := 4000000) only [method_specs_simp, seval, hn, e1, e2]
theorem u8_small {n : Int} (h0 : 0 ≤ n) (h1 : n < 256) : IntKind.u8.wrap n = n := by simp [IntKind.wrap, IntKind.bits, IntKind.signed]; omega
theorem c89 (n : Int) (h0 : 0 ≤ n) (h1 : n < 64) : Con P 89 [.int .i64 n] (.str (strOf [2 * n])) := by
  refine Con.of (n := 25) (rs := [.tmp 2]) (Is.fn Try.func89) rfl (Is.call Try.call89) Try.results89 Try.ntmps89 trivial ?_
  have hb : decide (2 * n ≥ 128) = false := by simp; omega
  simp (maxSteps := 4000000) only [method_specs_simp, seval]
  refine clY.con (c145 n h0 h1) (by simp only [method_specs_simp]) ?_
  simp (maxSteps := 4000000) only [method_specs_simp, seval]
  refine SW.while (A := Unit) (fun _ => ⟨pad 25 [.int .i64 n, .junk, .str ⟨#[]⟩, .int .u64 (2 * n), .ar 0 0 0], [.arr true 1 []], []⟩) (fun _ => 0) (fun _ => True) () [0] trivial ?_ ?_
  · simp only [mvcgen_simp, method_specs_simp, seval]
  · intro _ _
    refine CW.sound ?_
    simp (maxSteps := 4000000) only [method_specs_simp, seval, hb, oneV]
    rw [u8_small (by omega) (by omega)]
    refine bytY.mk [2 * n] rfl ?_
    simp (maxSteps := 4000000) only [method_specs_simp, seval]
theorem c90 (t : ByteArray) (h : t.size ≤ 10) : Con P 90 [.str t] (.str (textB t)) := by
  refine Con.of (n := 11) (rs := [.tmp 2]) (Is.fn Try.func90) rfl (Is.call Try.call90) Try.results90 Try.ntmps90 trivial ?_
  have hb : decide ((t.size : Int) > 8000) = false := by simp; omega
  simp (maxSteps := 4000000) only [method_specs_simp, seval, hb]
  refine clY.con (c89 _ (by omega) (by omega)) (by simp only [method_specs_simp]) ?_
  have hs : (strOf [2 * (t.size : Int)]).size = 1 := strOf_size _
  simp (maxSteps := 4000000) only [method_specs_simp, seval, hs]
  exact ⟨by omega, rfl⟩
theorem fold_bits : ∀ k : Fin 64, IntKind.u64.wrap ((BitVec.ofInt IntKind.u64.bits (IntKind.u64.wrap (IntKind.u64.wrap (k.val : Int) * 2 ^ min 1 IntKind.u64.bits)) ^^^ BitVec.ofInt IntKind.u64.bits (IntKind.u64.wrap ((k.val : Int).fdiv (2 ^ min 63 IntKind.i64.bits)))).toNat : Int) = 2 * (k.val : Int) := by decide +kernel
theorem fold_bits' {n : Int} (h0 : 0 ≤ n) (h1 : n < 64) : IntKind.u64.wrap ((BitVec.ofInt IntKind.u64.bits (IntKind.u64.wrap (IntKind.u64.wrap n * 2 ^ min 1 IntKind.u64.bits)) ^^^ BitVec.ofInt IntKind.u64.bits (IntKind.u64.wrap (n.fdiv (2 ^ min 63 IntKind.i64.bits)))).toNat : Int) = 2 * n := by
  have := fold_bits ⟨n.toNat, by omega⟩
  simp only at this
  rwa [Int.toNat_of_nonneg h0] at this
theorem n91 (n : Int) (h0 : 0 ≤ n) (h1 : n < 64) : NCon P 91 [.int .i64 n] (.ar 0 0 1) [.arr true 1 (rowsOf [2 * n])] := by
  refine LCon.new (LCon.of (n := 28) (rs := [.tmp 2]) (Is.fn Try.func91) rfl (Is.call Try.call91) Try.results91 Try.ntmps91 ?_) (pure1 (pure_rows _ _))
  have hb : decide (2 * n > 127) = false := by simp; omega
  simp (maxSteps := 4000000) only [method_specs_simp, seval]
  rw [fold_bits' h0 h1]
  refine SW.while (A := Unit) (fun _ => ⟨pad 28 [.int .i64 n, .junk, .nil, .int .u64 (2 * n), .ar 0 0 0], [.arr true 1 []], []⟩) (fun _ => 0) (fun _ => True) () [0] trivial ?_ ?_
  · simp only [mvcgen_simp, method_specs_simp, seval]
  · intro _ _
    refine CW.sound ?_
    simp (maxSteps := 4000000) only [method_specs_simp, seval, hb, oneV]
    rw [u8_small (by omega) (by omega)]
    have e : [[V.int IntKind.u8 (2 * n)]] = rowsOf [2 * n] := rfl
    rw [e]
    refine LResY.mk [2] ?_
    simp only [mvcgen_simp, method_specs_simp, seval]
theorem c146 (n : Int) (h0 : 0 ≤ n) (h1 : n < 64) : Con P 146 [.int .i64 n] (.str (strOf [2 * n])) := by
  refine Con.of (n := 6) (rs := [.tmp 2]) (Is.fn Try.func146) rfl (Is.call Try.call146) Try.results146 Try.ntmps146 trivial ?_
  simp (maxSteps := 4000000) only [method_specs_simp, seval]
  refine clY.new (n91 n h0 h1) (by simp only [method_specs_simp]) ?_
  simp (maxSteps := 4000000) only [method_specs_simp, seval]
  refine bytY.mk [2 * n] rfl ?_
  simp (maxSteps := 4000000) only [method_specs_simp, seval]
theorem c92 (t : ByteArray) (h : t.size ≤ 10) : Con P 92 [.str t] (.str (textB t)) := by
  refine Con.of (n := 11) (rs := [.tmp 2]) (Is.fn Try.func92) rfl (Is.call Try.call92) Try.results92 Try.ntmps92 trivial ?_
  have hb : decide ((t.size : Int) > 8000) = false := by simp; omega
  simp (maxSteps := 4000000) only [method_specs_simp, seval, hb]
  refine clY.con (c146 _ (by omega) (by omega)) (by simp only [method_specs_simp]) ?_
  have hs : (strOf [2 * (t.size : Int)]).size = 1 := strOf_size _
  simp (maxSteps := 4000000) only [method_specs_simp, seval, hs]
  exact ⟨by omega, rfl⟩
theorem ruleB_size {x : Rule} (h : ruleI x = true) (t : ByteArray) : (ruleB x t).size ≤ t.size + 14 := by
  obtain ⟨_, _, _, _, _, _, b7⟩ := rule_bounds h
  unfold ruleB textB
  simp only [ByteArray.size_append, strOf_size, List.length_singleton]
  omega
/-- The text up to rule k. -/
def partB (xs : List Rule) (k : Nat) : ByteArray := (xs.take k).foldl (fun t x => ruleB x t) (strOf [2 * (xs.length : Int)])
theorem partB_s {xs : List Rule} {k : Nat} {x : Rule} (h : xs[k]? = some x) : partB xs (k + 1) = ruleB x (partB xs k) := by
  unfold partB
  rw [List.take_add_one, h, List.foldl_append]
  rfl
theorem all_get {xs : List Rule} (h : allRules xs = true) {k : Nat} {x : Rule} (hx : xs[k]? = some x) : ruleI x = true := List.all_eq_true.1 h x (List.mem_of_getElem? hx)
theorem partB_size {xs : List Rule} (h : allRules xs = true) : ∀ k, k ≤ xs.length → (partB xs k).size ≤ 1 + 14 * k
  | 0, _ => by unfold partB; simp [strOf_size]
  | k + 1, hk => by
    have hx : xs[k]? = some (xs[k]'(by omega)) := List.getElem?_eq_getElem (by omega)
    rw [partB_s hx]
    have := ruleB_size (all_get h hx) (partB xs k)
    have := partB_size h k (by omega)
    omega
theorem c25 (xs : List Rule) (ok : rulesOk xs = true) : Con P 25 [.sl 4 (xs.map encRule)] (.str (rulesB xs)) := by
  have hall : allRules xs = true := by unfold rulesOk at ok; exact (Bool.and_eq_true_iff.1 ok).2
  have hlen : xs.length ≤ 20 := by unfold rulesOk at ok; have := (Bool.and_eq_true_iff.1 ok).1; simp only [decide_eq_true_eq] at this; omega
  refine Con.of (n := 47) (rs := [.tmp 2]) (Is.fn Try.func25) rfl (Is.call Try.call25) Try.results25 Try.ntmps25 trivial ?_
  simp (maxSteps := 4000000) only [method_specs_simp, seval]
  refine clY.con (c21 xs (by omega)) (by simp only [method_specs_simp]) ?_
  rw [ok]
  simp (maxSteps := 4000000) only [method_specs_simp, seval]
  refine clY.con (c89 _ (by omega) (by omega)) (by simp only [method_specs_simp]) ?_
  simp (maxSteps := 4000000) only [method_specs_simp, seval]
  refine SW.while (A := Nat) (fun k => ⟨pad 47 [.sl 4 (xs.map encRule), .junk, .str ⟨#[]⟩, .str (partB xs k), .int .i64 k], [], []⟩) (fun k => xs.length - k) (fun k => k ≤ xs.length) 0 [] (Nat.zero_le _) ?_ ?_
  · simp only [partB, List.take_zero, List.foldl_nil]
    simp only [mvcgen_simp, method_specs_simp, seval]
  · intro k hk
    refine CW.sound ?_
    simp (maxSteps := 4000000) only [method_specs_simp, seval]
    refine gB_split (fun h => ?_) (fun h => ?_)
    · simp only [decide_eq_true_eq, Int.ofNat_lt] at h
      have hxk : xs[k]? = some xs[k] := List.getElem?_eq_getElem h
      generalize xs[k] = x at hxk
      obtain ⟨b1, b2, b3, b4, b5, b6, b7⟩ := rule_bounds (all_get hall hxk)
      have hps := partB_size hall k hk
      simp (maxSteps := 4000000) only [hxk, method_specs_simp, seval, encRule]
      have s1 : ∀ z : Int, (strOf [z]).size = 1 := fun z => strOf_size _
      have s2 : (textB x.text).size = 1 + x.text.size := by unfold textB; rw [ByteArray.size_append, s1]
      refine ⟨by kernel_rfl, by omega, by omega, ?_⟩
      refine clY.con (c89 _ (by omega) (by omega)) (by simp only [method_specs_simp]) ?_
      simp (maxSteps := 4000000) only [hxk, method_specs_simp, seval, encRule, s1, ByteArray.size_append]
      refine ⟨by omega, by omega, by omega, ?_⟩
      refine clY.con (c89 _ (by omega) (by omega)) (by simp only [method_specs_simp]) ?_
      simp (maxSteps := 4000000) only [hxk, method_specs_simp, seval, encRule, s1, ByteArray.size_append]
      refine ⟨by omega, by omega, by omega, ?_⟩
      refine clY.con (c89 _ (by omega) (by omega)) (by simp only [method_specs_simp]) ?_
      simp (maxSteps := 4000000) only [hxk, method_specs_simp, seval, encRule, s1, ByteArray.size_append]
      refine ⟨by omega, by omega, by omega, ?_⟩
      refine clY.con (c90 _ b7) (by simp only [method_specs_simp]) ?_
      simp (maxSteps := 4000000) only [hxk, method_specs_simp, seval, encRule, s1, s2, ByteArray.size_append]
      refine ⟨by omega, ?_⟩
      rw [wrap_id (by omega) (by omega)]
      refine Again.mk (k + 1) [] h (Nat.sub_lt_sub_left h (Nat.lt_succ_self _)) ?_
      have e : partB xs k ++ strOf [2 * x.kind] ++ strOf [2 * x.n] ++ strOf [2 * x.loud] ++ textB x.text = partB xs (k + 1) := (partB_s hxk).symm
      rw [e]
      simp only [mvcgen_simp, method_specs_simp, seval]
    · simp only [decide_eq_false_iff_not, Bool.not_true, Int.ofNat_lt] at h
      have hkk : k = xs.length := by omega
      subst hkk
      unfold partB
      rw [List.take_of_length_le (Nat.le_refl _)]
      rfl
theorem c25e (xs : List Rule) (hx : xs.length < 2 ^ 62) (bad : rulesOk xs = false) : Con P 25 [.sl 4 (xs.map encRule)] (.str ⟨#[]⟩) := by
  refine Con.of (n := 47) (rs := [.tmp 2]) (Is.fn Try.func25) rfl (Is.call Try.call25) Try.results25 Try.ntmps25 trivial ?_
  simp (maxSteps := 4000000) only [method_specs_simp, seval]
  refine clY.con (c21 xs hx) (by simp only [method_specs_simp]) ?_
  rw [bad]
  simp (maxSteps := 4000000) only [method_specs_simp, seval]
theorem c26e (xs : List Rule) (hx : xs.length < 2 ^ 62) (bad : rulesOk xs = false) : Con P 26 [.sl 4 (xs.map encRule)] (.str ⟨#[]⟩) := by
  refine Con.of (n := 45) (rs := [.tmp 2]) (Is.fn Try.func26) rfl (Is.call Try.call26) Try.results26 Try.ntmps26 trivial ?_
  simp (maxSteps := 4000000) only [method_specs_simp, seval]
  refine clY.con (c23 xs hx) (by simp only [method_specs_simp]) ?_
  rw [bad]
  simp (maxSteps := 4000000) only [method_specs_simp, seval]
/-- The bytes up to rule k. -/
def partN (xs : List Rule) (k : Nat) : List Int := (xs.take k).foldl (fun l x => l ++ ruleN x) [2 * (xs.length : Int)]
theorem partN_s {xs : List Rule} {k : Nat} {x : Rule} (h : xs[k]? = some x) : partN xs (k + 1) = partN xs k ++ ruleN x := by
  unfold partN
  rw [List.take_add_one, h, List.foldl_append]
  rfl
theorem ruleN_length {x : Rule} (h : ruleI x = true) : (ruleN x).length ≤ 14 := by
  obtain ⟨_, _, _, _, _, _, b7⟩ := rule_bounds h
  unfold ruleN intsOf textB
  simp only [List.length_append, List.length_map, Array.length_toList, List.length_cons, List.length_nil]
  have : (strOf [2 * (x.text.size : Int)] ++ x.text).data.size = 1 + x.text.size := by
    have := ByteArray.size_append (a := strOf [2 * (x.text.size : Int)]) (b := x.text)
    rw [strOf_size] at this
    simpa using this
  omega
theorem partN_length {xs : List Rule} (h : allRules xs = true) : ∀ k, k ≤ xs.length → (partN xs k).length ≤ 1 + 14 * k
  | 0, _ => by unfold partN; simp
  | k + 1, hk => by
    have hx : xs[k]? = some (xs[k]'(by omega)) := List.getElem?_eq_getElem (by omega)
    rw [partN_s hx, List.length_append]
    have := ruleN_length (all_get h hx)
    have := partN_length h k (by omega)
    omega
theorem part_same (xs : List Rule) : ∀ k, k ≤ xs.length → strOf (partN xs k) = partB xs k
  | 0, _ => rfl
  | k + 1, hk => by
    have hx : xs[k]? = some (xs[k]'(by omega)) := List.getElem?_eq_getElem (by omega)
    rw [partN_s hx, partB_s hx, ← part_same xs k (by omega), ruleB_eq]
theorem rulesB_eq (xs : List Rule) : rulesB xs = strOf (partN xs xs.length) := by
  rw [part_same xs _ (Nat.le_refl _)]
  unfold rulesB partB
  rw [List.take_of_length_le (Nat.le_refl _)]
theorem c26 (xs : List Rule) (ok : rulesOk xs = true) : Con P 26 [.sl 4 (xs.map encRule)] (.str (rulesB xs)) := by
  have hall : allRules xs = true := by unfold rulesOk at ok; exact (Bool.and_eq_true_iff.1 ok).2
  have hlen : xs.length ≤ 20 := by unfold rulesOk at ok; have := (Bool.and_eq_true_iff.1 ok).1; simp only [decide_eq_true_eq] at this; omega
  refine Con.of (n := 45) (rs := [.tmp 2]) (Is.fn Try.func26) rfl (Is.call Try.call26) Try.results26 Try.ntmps26 trivial ?_
  simp (maxSteps := 4000000) only [method_specs_simp, seval]
  refine clY.con (c23 xs (by omega)) (by simp only [method_specs_simp]) ?_
  rw [ok]
  simp (maxSteps := 4000000) only [method_specs_simp, seval]
  refine clY.new (n91 _ (by omega) (by omega)) (by simp only [method_specs_simp]) ?_
  simp (maxSteps := 4000000) only [method_specs_simp, seval]
  refine SW.while (A := Nat) (fun k => ⟨pad 45 [.sl 4 (xs.map encRule), .junk, .str ⟨#[]⟩, .ar 0 0 (partN xs k).length, .junk, .junk, .junk, .junk, .junk, .junk, .junk, .junk, .junk, .junk, .sl 4 (xs.map encRule), .int .i64 xs.length, .int .i64 k], [.arr true 1 (rowsOf (partN xs k))], []⟩) (fun k => xs.length - k) (fun k => k ≤ xs.length) 0 [0] (Nat.zero_le _) ?_ ?_
  · simp only [partN, List.take_zero, List.foldl_nil]
    simp only [mvcgen_simp, method_specs_simp, seval]
  · intro k hk
    refine CW.sound ?_
    simp (maxSteps := 4000000) only [method_specs_simp, seval]
    refine gB_split (fun h => ?_) (fun h => ?_)
    · simp only [decide_eq_true_eq, Int.ofNat_lt] at h
      have hxk : xs[k]? = some xs[k] := List.getElem?_eq_getElem h
      generalize xs[k] = x at hxk
      obtain ⟨b1, b2, b3, b4, b5, b6, b7⟩ := rule_bounds (all_get hall hxk)
      have hps := partN_length hall k hk
      simp (maxSteps := 4000000) only [hxk, method_specs_simp, seval, encRule]
      refine ⟨by omega, by omega, ?_⟩
      refine SW.while (A := Nat) (fun j => ⟨pad 45 [.sl 4 (xs.map encRule), .junk, .str ⟨#[]⟩, .ar 0 0 ((partN xs k).length + j), .junk, .ptr 1 0, .junk, .junk, .junk, .junk, .junk, .junk, .junk, .junk, .sl 4 (xs.map encRule), .int .i64 xs.length, .int .i64 k,
          .junk, .junk, .junk, .junk, .junk, .junk, .junk, .junk, .junk, .ar 2 0 3, .int .i64 3, .int .i64 j], [.arr true 1 (rowsOf (partN xs k ++ [2 * x.kind, 2 * x.n, 2 * x.loud].take j)), .box true [.int .i64 x.kind, .int .i64 x.n, .str x.text, .int .i64 x.loud], .arr true 1 [[.int .i64 x.kind], [.int .i64 x.n], [.int .i64 x.loud]]], []⟩)
        (fun j => 3 - j) (fun j => j ≤ 3) 0 [0, 1, 2] (by omega) ?_ ?_
      · simp only [List.take_zero, List.append_nil]
        simp only [mvcgen_simp, method_specs_simp, seval]
      · intro j hj
        refine CW.sound ?_
        match j, hj with
        | 0, _ =>
          simp (maxSteps := 4000000) only [method_specs_simp, seval]
          refine clY.new (n91 _ (by omega) (by omega)) (by simp only [method_specs_simp]) ?_
          simp (maxSteps := 4000000) only [method_specs_simp, seval, List.length_append]
          refine ⟨by omega, by omega, ?_⟩
          have e : rowsOf (partN xs k) ++ rowsOf [2 * x.kind] = rowsOf (partN xs k ++ [2 * x.kind]) := by rw [← rowsOf_append]
          rw [e]
          refine Again.mk 1 [4, 1, 2] (by omega) (by omega) ?_
          simp only [mvcgen_simp, method_specs_simp, seval]
          rfl
        | 1, _ =>
          simp (maxSteps := 4000000) only [method_specs_simp, seval]
          refine clY.new (n91 _ (by omega) (by omega)) (by simp only [method_specs_simp]) ?_
          simp (maxSteps := 4000000) only [method_specs_simp, seval, List.length_append]
          refine ⟨by omega, by omega, ?_⟩
          have e : rowsOf (partN xs k ++ [2 * x.kind]) ++ rowsOf [2 * x.n] = rowsOf (partN xs k ++ [2 * x.kind, 2 * x.n]) := by rw [← rowsOf_append]; simp
          rw [e]
          refine Again.mk 2 [4, 1, 2] (by omega) (by omega) ?_
          simp only [mvcgen_simp, method_specs_simp, seval]
          rfl
        | 2, _ =>
          simp (maxSteps := 4000000) only [method_specs_simp, seval]
          refine clY.new (n91 _ (by omega) (by omega)) (by simp only [method_specs_simp]) ?_
          simp (maxSteps := 4000000) only [method_specs_simp, seval, List.length_append]
          refine ⟨by omega, by omega, ?_⟩
          have e : rowsOf (partN xs k ++ [2 * x.kind, 2 * x.n]) ++ rowsOf [2 * x.loud] = rowsOf (partN xs k ++ [2 * x.kind, 2 * x.n, 2 * x.loud]) := by rw [← rowsOf_append]; simp
          rw [e]
          refine Again.mk 3 [4, 1, 2] (by omega) (by omega) ?_
          simp only [mvcgen_simp, method_specs_simp, seval]
          rfl
        | 3, _ =>
          have hsz : (intsOf (textB x.text)).length ≤ 11 := by
            have := ruleN_length (all_get hall hxk)
            unfold ruleN at this
            simp at this
            omega
          simp (maxSteps := 4000000) only [method_specs_simp, seval]
          refine clY.con (c92 _ b7) (by simp only [method_specs_simp]) ?_
          simp (maxSteps := 4000000) only [method_specs_simp, seval, List.length_append]
          refine ⟨by omega, by omega, ?_⟩
          have e : rowsOf (partN xs k ++ [2 * x.kind, 2 * x.n, 2 * x.loud]) ++ rowsOf (intsOf (textB x.text)) = rowsOf (partN xs (k + 1)) := by
            rw [← rowsOf_append, partN_s hxk, ruleN, List.append_assoc]
          have e2 : (partN xs (k + 1)).length = (partN xs k).length + 3 + (intsOf (textB x.text)).length := by
            rw [partN_s hxk, ruleN]; simp; omega
          rw [e, wrap_id (by omega) (by omega), ← e2]
          refine Again.mk (k + 1) [3] h (Nat.sub_lt_sub_left h (Nat.lt_succ_self _)) ?_
          simp only [mvcgen_simp, method_specs_simp, seval]
    · simp only [decide_eq_false_iff_not, Bool.not_true, Int.ofNat_lt] at h
      have hkk : k = xs.length := by omega
      subst hkk
      have hl := partN_length hall xs.length (Nat.le_refl _)
      refine bytY.mk (partN xs xs.length) rfl ?_
      simp (maxSteps := 4000000) only [method_specs_simp, seval]
      rw [rulesB_eq]
end
end Go.Proofs.Ytkdaijcdddomjaa
