/- Graphs of events: sizes, copies, comparisons. No conditions but lengths and bounds. -/
import Derived.Test.YtkcllejnmpnjfaaS1
import Derived.Test.YtkcllejnmpnjfaaL3
import Derived.Test.YtkcllejnmpnjfaaL4
namespace Go.Proofs.Ytkcllejnmpnjfaa
open Go.Pm
open Go.Gm (Ev Gr)
set_option maxRecDepth 10000
set_option linter.unusedSimpArgs false
set_option linter.unusedVariables false
def encI (n : Int) : List V := [.int .i64 n]
def encEv (e : Ev) : List V := [.int .i64 e.id, .int .i64 e.room, .int .i64 e.author, .int .i64 e.kind, .int .i64 e.key, .int .i64 e.n, .str e.text, .sl 1 (e.prev.map encI), .int .i64 e.time]
def encGr (g : Gr) : List V := [.int .i64 g.room, .sl 9 (g.events.map encEv), .sl 9 (g.parked.map encEv)]
@[method_specs_simp] theorem encI_refs (ok : Nat → Prop) (xs : List Int) : Refss ok (xs.map encI) = True := eq_true (Refss_map fun a => by simp [encI, Refs, Ref])
@[method_specs_simp] theorem encI_rens (ρ : Nat → Nat) (xs : List Int) : renss ρ (xs.map encI) = xs.map encI := renss_map fun a => by simp [encI, Refs, Ref]
theorem encEv_ref1 (ok : Nat → Prop) (e : Ev) : Refs ok (encEv e) := by simp only [encEv, Refs, Ref, encI_refs, and_self]
@[method_specs_simp] theorem encEv_refs1 (ok : Nat → Prop) (e : Ev) : Refs ok (encEv e) = True := eq_true (encEv_ref1 ok e)
@[method_specs_simp] theorem encEv_refs (ok : Nat → Prop) (xs : List Ev) : Refss ok (xs.map encEv) = True := eq_true (Refss_map fun a => encEv_ref1 ok a)
@[method_specs_simp] theorem encEv_rens (ρ : Nat → Nat) (xs : List Ev) : renss ρ (xs.map encEv) = xs.map encEv := renss_map fun a => encEv_ref1 _ a
@[method_specs_simp] theorem encEv_rens1 (ρ : Nat → Nat) (e : Ev) : rens ρ (encEv e) = encEv e := rens_pure _ (encEv_ref1 _ e)
theorem encGr_ref1 (ok : Nat → Prop) (g : Gr) : Refs ok (encGr g) := by simp only [encGr, Refs, Ref, encEv_refs, and_self]
@[method_specs_simp] theorem encGr_refs1 (ok : Nat → Prop) (g : Gr) : Refs ok (encGr g) = True := eq_true (encGr_ref1 ok g)
@[method_specs_simp] theorem encGr_rens1 (ρ : Nat → Nat) (g : Gr) : rens ρ (encGr g) = encGr g := rens_pure _ (encGr_ref1 _ g)
theorem encI_len (xs : List Int) : (∀ z ∈ xs.map encI, z.length = 1) = True := eq_true fun z hz => by
  obtain ⟨a, _, rfl⟩ := List.mem_map.1 hz; rfl
theorem encI_one (m : List Ob) (xs : List Int) : (∀ z ∈ (xs.map encI).flatten, oneV m z = true) = True := eq_true fun z hz => by
  obtain ⟨l, hl, hz⟩ := List.mem_flatten.1 hz
  obtain ⟨a, _, rfl⟩ := List.mem_map.1 hl
  simp only [encI, List.mem_cons, List.not_mem_nil, or_false] at hz
  rw [hz]; rfl
theorem encEv_len (xs : List Ev) : (∀ z ∈ xs.map encEv, z.length = 9) = True := eq_true fun z hz => by
  obtain ⟨a, _, rfl⟩ := List.mem_map.1 hz; rfl
theorem encEv_one1 (m : List Ob) (e : Ev) : ∀ z ∈ encEv e, oneV m z = true := fun z hz => by
  simp only [encEv, List.mem_cons, List.not_mem_nil, or_false] at hz
  rcases hz with rfl | rfl | rfl | rfl | rfl | rfl | rfl | rfl | rfl <;> rfl
theorem encEv_one (m : List Ob) (xs : List Ev) : (∀ z ∈ (xs.map encEv).flatten, oneV m z = true) = True := eq_true fun z hz => by
  obtain ⟨l, hl, hz⟩ := List.mem_flatten.1 hz
  obtain ⟨a, _, rfl⟩ := List.mem_map.1 hl
  exact encEv_one1 m a z hz
attribute [method_specs_simp ↓] encI_len encI_one encEv_len encEv_one
theorem flat_ints (xs : List Int) : Flatss (xs.map encI) := by
  induction xs with
  | nil => trivial
  | cons x xs ih => exact ⟨⟨trivial, trivial⟩, ih⟩
theorem pure_ints (lv : Bool) (xs : List Int) : (Ob.arr lv 1 (xs.map encI)).pure := Refss_map fun a => by simp [encI, Refs, Ref]
theorem map_getE {α β : Type} (f : α → β) {l : List α} {i : Nat} {x : α} (h : l[i]? = some x) : (l.map f)[i]? = some (f x) := by rw [List.getElem?_map, h]; rfl
theorem take_set_get {α : Type} {xs ys : List α} {k : Nat} {x : α} (hx : xs[k]? = some x) (hr : ys.take k = xs.take k) (hk : k < ys.length) : (ys.set k x).take (k + 1) = xs.take (k + 1) := by
  apply List.ext_getElem?
  intro i
  have := congrArg (fun l => l[i]?) hr
  simp only [List.getElem?_take, List.getElem?_set] at this ⊢
  by_cases e : k = i
  · subst e; simp [hx, hk]
  · split
    · rw [if_pos (by omega), if_pos (by omega)] at this
      simpa [e] using this
    · rfl
/-- What is left of l, or -1. -/
def sb (l w : Int) : Int := if l - w < 0 then -1 else l - w
theorem sb_sb {l a b : Int} (h : 0 ≤ l - a) (hb : 0 ≤ b) : sb (l - a) b = sb l (a + b) := by unfold sb; rw [show l - a - b = l - (a + b) by omega]
theorem sb_neg {l a b : Int} (h : l - a < 0) (hb : 0 ≤ b) : sb l (a + b) = -1 := by unfold sb; rw [if_pos (by omega)]
theorem sb_lt {l w : Int} (h : l - w < 0) : sb l w = -1 := by unfold sb; rw [if_pos h]
theorem sb_ge {l w : Int} (h : 0 ≤ l - w) : sb l w = l - w := by unfold sb; rw [if_neg (by omega)]
def wE (e : Ev) : Int := e.text.size + e.prev.length
def wEs : List Ev → Int
  | [] => 0
  | e :: l => wE e + wEs l
theorem wE_nn (e : Ev) : 0 ≤ wE e := by unfold wE; omega
theorem wEs_nn : ∀ l : List Ev, 0 ≤ wEs l
  | [] => Int.le_refl _
  | e :: l => by have := wE_nn e; have := wEs_nn l; unfold wEs; omega
def wG (g : Gr) : Int := (g.events.length + wEs g.events) + (g.parked.length + wEs g.parked)
/-- Events that fit a machine. -/
def EvOK (e : Ev) : Prop := e.text.size < 2 ^ 50 ∧ e.prev.length < 2 ^ 44
def EvsOK (l : List Ev) : Prop := l.length * 96 ≤ 2 ^ 47 ∧ ∀ e ∈ l, EvOK e
def GrOK (g : Gr) : Prop := EvsOK g.events ∧ EvsOK g.parked
section
variable {P : Program} [Is P]
theorem c_szInt64S (xs : List Int) (l : Int) (h0 : 0 ≤ l) (h1 : l ≤ 1048576) (hx : xs.length < 2 ^ 62) : Con P 145 [.sl 1 (xs.map encI), .int .i64 l] (.int .i64 (sb l xs.length)) := by
  refine Con.of (n := 12) (rs := [.tmp 4]) (Is.fn Try.func145) rfl (Is.call Try.call145) Try.results145 Try.ntmps145 trivial ?_
  simp (maxSteps := 4000000) only [method_specs_simp, seval]
  rw [wrap_id (by omega) (by omega)]
  refine gB_split (fun h => ?_) (fun h => ?_)
  · simp only [decide_eq_true_eq] at h; rw [sb_lt h]
  · simp only [decide_eq_false_iff_not, Bool.not_true] at h; rw [sb_ge (by omega)]
theorem c_szEvent (e : Ev) (l : Int) (h0 : 0 ≤ l) (h1 : l ≤ 1048576) (he : EvOK e) : Con P 55 [.agg (encEv e), .int .i64 l] (.int .i64 (sb l (wE e))) := by
  have he1 := he.1
  have he2 := he.2
  have w1 : IntKind.i64.wrap (l - e.text.size) = l - e.text.size := wrap_id (by omega) (by omega)
  refine Con.of (n := 19) (rs := [.tmp 4]) (Is.fn Try.func55) rfl (Is.call Try.call55) Try.results55 Try.ntmps55 trivial ?_
  simp (maxSteps := 4000000) only [method_specs_simp, seval]
  simp (maxSteps := 4000000) only [method_specs_simp, seval, encEv, w1]
  refine gB_split (fun h => ?_) (fun h => ?_)
  · simp only [decide_eq_true_eq] at h; rw [wE, sb_neg h (by omega)]
  · simp only [decide_eq_false_iff_not, Bool.not_true] at h
    refine clY.con (c_szInt64S e.prev (l - e.text.size) (by omega) (by omega) (by omega)) (by simp only [method_specs_simp]) ?_
    simp (maxSteps := 4000000) only [method_specs_simp, seval]
    rw [sb_sb (by omega) (by omega), ← wE]
    refine gB_split (fun h => ?_) (fun h => ?_)
    · simp only [decide_eq_true_eq] at h
      have : sb l (wE e) = -1 := by unfold sb at h ⊢; split at h <;> simp_all
      rw [this]
    · trivial
theorem c_szEventS (xs : List Ev) (l : Int) (h0 : 0 ≤ l) (h1 : l ≤ 1048576) (hx : EvsOK xs) : Con P 130 [.sl 9 (xs.map encEv), .int .i64 l] (.int .i64 (sb l (xs.length + wEs xs))) := by
  have hx1 := hx.1
  have w1 : IntKind.i64.wrap (l - xs.length) = l - xs.length := wrap_id (by omega) (by omega)
  refine Con.of (n := 27) (rs := [.tmp 4]) (Is.fn Try.func130) rfl (Is.call Try.call130) Try.results130 Try.ntmps130 trivial ?_
  simp (maxSteps := 4000000) only [method_specs_simp, seval]
  rw [w1]
  refine gB_split (fun h => ?_) (fun h => ?_)
  · simp only [decide_eq_true_eq] at h; rw [sb_neg h (wEs_nn xs)]
  · simp only [decide_eq_false_iff_not, Bool.not_true] at h
    refine SW.while (A := Nat × Int) (fun a => ⟨pad 27 [.sl 9 (xs.map encEv), .int .i64 a.2, .junk, .junk, .int .i64 0, .int .i64 a.1], [], []⟩) (fun a => xs.length - a.1)
      (fun a => a.1 ≤ xs.length ∧ 0 ≤ a.2 ∧ a.2 ≤ 1048576 ∧ sb l (xs.length + wEs xs) = sb a.2 (wEs (xs.drop a.1))) (0, l - xs.length) [] ⟨Nat.zero_le _, by simp only; omega, by simp only; omega, ?_⟩ ?_ ?_
    · simp only [List.drop_zero]; rw [sb_sb (by omega) (wEs_nn xs)]
    · simp only [mvcgen_simp, method_specs_simp, seval]
    · rintro ⟨k, r⟩ ⟨hk, hr0, hr1, hr⟩
      simp only at hk hr0 hr1 hr
      rw [hr]
      refine CW.sound ?_
      simp (maxSteps := 4000000) only [method_specs_simp, seval]
      refine gB_split (fun h => ?_) (fun h => ?_)
      · simp only [decide_eq_true_eq, Int.ofNat_lt] at h
        have hxk : xs[k]? = some xs[k] := List.getElem?_eq_getElem h
        have hOK := hx.2 _ (List.getElem_mem h)
        generalize xs[k] = x at hxk hOK
        simp only [List.getElem?_map, hxk, method_specs_simp]
        refine ⟨by omega, by omega, by simp [encEv], ?_⟩
        rw [show List.take 9 (encEv x) = encEv x from rfl]
        refine clY.con (c_szEvent x r hr0 hr1 hOK) (by simp only [method_specs_simp, encEv]) ?_
        simp (maxSteps := 4000000) only [method_specs_simp, seval]
        rw [drop_cons hxk, wEs] 
        have hn := wEs_nn (xs.drop (k + 1))
        have hw := wE_nn x
        refine gB_split (fun h' => ?_) (fun h' => ?_)
        · simp only [decide_eq_true_eq] at h'
          have h2 : r - wE x < 0 := by unfold sb at h'; split at h' <;> omega
          rw [sb_neg h2 hn]
        · simp only [decide_eq_false_iff_not, Bool.not_true] at h'
          have h2 : 0 ≤ r - wE x := by unfold sb at h'; split at h' <;> omega
          rw [wrap_id (by omega) (by omega), sb_ge h2]
          refine Again.mk (k + 1, r - wE x) [] ⟨h, h2, by simp only; omega, ?_⟩ (Nat.sub_lt_sub_left h (Nat.lt_succ_self _)) ?_
          · exact (sb_sb h2 hn).symm
          · simp (maxSteps := 4000000) only [method_specs_simp, seval]
      · simp only [decide_eq_false_iff_not, Bool.not_true, Int.ofNat_lt] at h
        rw [List.drop_eq_nil_of_le (by omega), wEs, sb_ge (by omega)]
        simp
theorem c_szGraph (g : Gr) (l : Int) (h0 : 0 ≤ l) (h1 : l ≤ 1048576) (hg : GrOK g) : Con P 41 [.agg (encGr g), .int .i64 l] (.int .i64 (sb l (wG g))) := by
  have n1 := wEs_nn g.events
  have n2 := wEs_nn g.parked
  refine Con.of (n := 18) (rs := [.tmp 4]) (Is.fn Try.func41) rfl (Is.call Try.call41) Try.results41 Try.ntmps41 trivial ?_
  simp (maxSteps := 4000000) only [method_specs_simp, seval]
  simp (maxSteps := 4000000) only [method_specs_simp, seval, encGr]
  refine clY.con (c_szEventS g.events l h0 h1 hg.1) (by simp only [method_specs_simp]) ?_
  simp (maxSteps := 4000000) only [method_specs_simp, seval]
  refine gB_split (fun h => ?_) (fun h => ?_)
  · simp only [decide_eq_true_eq] at h
    have h2 : l - (g.events.length + wEs g.events) < 0 := by unfold sb at h; split at h <;> omega
    rw [wG, sb_neg h2 (by omega)]
  · simp only [decide_eq_false_iff_not, Bool.not_true] at h
    have h2 : 0 ≤ l - (g.events.length + wEs g.events) := by unfold sb at h; split at h <;> omega
    rw [sb_ge h2]
    refine clY.con (c_szEventS g.parked (l - (g.events.length + wEs g.events)) h2 (by omega) hg.2) (by simp only [method_specs_simp]) ?_
    simp (maxSteps := 4000000) only [method_specs_simp, seval]
    rw [sb_sb h2 (by omega), ← wG]
    refine gB_split (fun h => ?_) (fun h => ?_)
    · simp only [decide_eq_true_eq] at h
      have : sb l (wG g) = -1 := by unfold sb at h ⊢; split at h <;> simp_all
      rw [this]
    · trivial
theorem c_eqInt64S (xs : List Int) (hx : xs.length < 2 ^ 62) : Con P 37 [.sl 1 (xs.map encI), .sl 1 (xs.map encI)] (.bool true) := by
  have e5 : ∀ a : Int, (a != a) = false := fun a => by simp
  refine Con.of (n := 26) (rs := [.tmp 4]) (Is.fn Try.func37) rfl (Is.call Try.call37) Try.results37 Try.ntmps37 trivial ?_
  simp (maxSteps := 4000000) only [method_specs_simp, seval]
  simp (maxSteps := 4000000) only [method_specs_simp, seval, e5]
  refine SW.while (A := Nat) (fun k => ⟨pad 26 [.sl 1 (xs.map encI), .sl 1 (xs.map encI), .junk, .junk, .bool false, .int .i64 k], [], []⟩) (fun k => xs.length - k) (fun k => k ≤ xs.length) 0 [] (Nat.zero_le _) ?_ ?_
  · simp only [mvcgen_simp, method_specs_simp, seval]
  · intro k hk
    refine CW.sound ?_
    simp (maxSteps := 4000000) only [method_specs_simp, seval]
    refine gB_split (fun h => ?_) (fun h => ?_)
    · simp only [decide_eq_true_eq, Int.ofNat_lt] at h
      obtain ⟨x, hxk⟩ : ∃ x, xs[k]? = some x := ⟨_, List.getElem?_eq_getElem h⟩
      simp (maxSteps := 4000000) only [List.getElem?_map, hxk, encI, method_specs_simp, seval, e5]
      refine ⟨by kernel_rfl, by omega, by omega, by omega, by omega, ?_⟩
      rw [wrap_id (by omega) (by omega)]
      refine Again.mk (k + 1) [] h (Nat.sub_lt_sub_left h (Nat.lt_succ_self _)) ?_
      simp only [mvcgen_simp, method_specs_simp, seval]
    · trivial
theorem c_eqEvent (e : Ev) (he : EvOK e) : Con P 45 [.agg (encEv e), .agg (encEv e)] (.bool true) := by
  have e5 : ∀ a : Int, (a != a) = false := fun a => by simp
  have e6 : ∀ a : List UInt8, (a == a) = true := fun a => by simp
  refine Con.of (n := 51) (rs := [.tmp 4]) (Is.fn Try.func45) rfl (Is.call Try.call45) Try.results45 Try.ntmps45 trivial ?_
  simp (maxSteps := 4000000) only [method_specs_simp, seval]
  simp (maxSteps := 4000000) only [method_specs_simp, seval, encEv, e5, e6]
  refine clY.con (c_eqInt64S e.prev (by have := he.2; omega)) (by simp only [method_specs_simp]) ?_
  simp (maxSteps := 4000000) only [method_specs_simp, seval, e5]
theorem c_eqEventS (xs : List Ev) (hx : EvsOK xs) : Con P 66 [.sl 9 (xs.map encEv), .sl 9 (xs.map encEv)] (.bool true) := by
  have e5 : ∀ a : Int, (a != a) = false := fun a => by simp
  have hx1 := hx.1
  refine Con.of (n := 27) (rs := [.tmp 4]) (Is.fn Try.func66) rfl (Is.call Try.call66) Try.results66 Try.ntmps66 trivial ?_
  simp (maxSteps := 4000000) only [method_specs_simp, seval]
  simp (maxSteps := 4000000) only [method_specs_simp, seval, e5]
  refine SW.while (A := Nat) (fun k => ⟨pad 27 [.sl 9 (xs.map encEv), .sl 9 (xs.map encEv), .junk, .junk, .bool false, .int .i64 k], [], []⟩) (fun k => xs.length - k) (fun k => k ≤ xs.length) 0 [] (Nat.zero_le _) ?_ ?_
  · simp only [mvcgen_simp, method_specs_simp, seval]
  · intro k hk
    refine CW.sound ?_
    simp (maxSteps := 4000000) only [method_specs_simp, seval]
    refine gB_split (fun h => ?_) (fun h => ?_)
    · simp only [decide_eq_true_eq, Int.ofNat_lt] at h
      have hxk : xs[k]? = some xs[k] := List.getElem?_eq_getElem h
      have hOK := hx.2 _ (List.getElem_mem h)
      generalize xs[k] = x at hxk hOK
      simp only [List.getElem?_map, hxk, method_specs_simp, seval]
      refine ⟨by kernel_rfl, by omega, by omega, by simp [encEv], by omega, by omega, by simp [encEv], ?_⟩
      rw [show List.take 9 (encEv x) = encEv x from rfl]
      refine clY.con (c_eqEvent x hOK) (by simp only [method_specs_simp, encEv]) ?_
      simp (maxSteps := 4000000) only [method_specs_simp, seval]
      rw [wrap_id (by omega) (by omega)]
      refine Again.mk (k + 1) [] h (Nat.sub_lt_sub_left h (Nat.lt_succ_self _)) ?_
      simp only [mvcgen_simp, method_specs_simp, seval]
    · trivial
theorem c_eqGraph (g : Gr) (hg : GrOK g) : Con P 46 [.agg (encGr g), .agg (encGr g)] (.bool true) := by
  have e5 : ∀ a : Int, (a != a) = false := fun a => by simp
  refine Con.of (n := 22) (rs := [.tmp 4]) (Is.fn Try.func46) rfl (Is.call Try.call46) Try.results46 Try.ntmps46 trivial ?_
  simp (maxSteps := 4000000) only [method_specs_simp, seval]
  simp (maxSteps := 4000000) only [method_specs_simp, seval, encGr, e5]
  refine clY.con (c_eqEventS g.events hg.1) (by simp only [method_specs_simp]) ?_
  simp (maxSteps := 4000000) only [method_specs_simp, seval]
  refine clY.con (c_eqEventS g.parked hg.2) (by simp only [method_specs_simp]) ?_
  simp (maxSteps := 4000000) only [method_specs_simp, seval]
theorem n_toInt64S (xs : List Int) (hx : xs.length < 2 ^ 44) : NCon P 34 [.sl 1 (xs.map encI)] (.ar 0 0 xs.length) [.arr true 1 (xs.map encI)] := by
  refine LCon.new (LCon.of (n := 22) (rs := [.tmp 2]) (Is.fn Try.func34) rfl (Is.call Try.call34) Try.results34 Try.ntmps34 ?_) (pure1 (pure_ints _ _))
  simp (maxSteps := 4000000) only [method_specs_simp, seval]
  refine ⟨by omega, by omega, by omega, ?_⟩
  refine SW.while (A := Nat × List Int) (fun a => ⟨pad 22 [.sl 1 (xs.map encI), .junk, .nil, .ar 0 0 xs.length, .int .i64 a.1], [.arr true 1 (a.2.map encI)], []⟩) (fun a => xs.length - a.1)
      (fun a => a.1 ≤ xs.length ∧ a.2.length = xs.length ∧ a.2.take a.1 = xs.take a.1) (0, List.replicate xs.length 0) [0] ⟨Nat.zero_le _, by simp, by simp⟩ ?_ ?_
  · have e : List.replicate xs.length [V.int IntKind.i64 0] = (List.replicate xs.length (0 : Int)).map encI := by simp [encI]
    rw [e]
    simp only [mvcgen_simp, method_specs_simp, seval]
  · rintro ⟨k, ys⟩ ⟨hk, hy, hr⟩
    simp only at hk hy hr
    refine CW.sound ?_
    simp (maxSteps := 4000000) only [method_specs_simp, seval]
    refine gB_split (fun h => ?_) (fun h => ?_)
    · simp only [decide_eq_true_eq, Int.ofNat_lt] at h
      obtain ⟨x, hxk⟩ : ∃ x, xs[k]? = some x := ⟨_, List.getElem?_eq_getElem h⟩
      obtain ⟨y, hyk⟩ : ∃ y, ys[k]? = some y := ⟨_, List.getElem?_eq_getElem (by omega)⟩
      have eg : (ys.map encI).getD k [] = encI y := by rw [List.getD_eq_getElem?_getD, map_getE _ hyk]; rfl
      simp (maxSteps := 4000000) only [List.getElem?_map, hxk, encI, method_specs_simp, seval]
      refine ⟨by omega, by omega, by omega, by omega, by omega, ?_⟩
      rw [wrap_id (by omega) (by omega)]
      have e : (ys.map encI).set k (V.int IntKind.i64 x :: List.drop 1 ((ys.map encI).getD k [])) = (ys.set k x).map encI := by rw [eg, List.map_set]; rfl
      refine Again.mk (k + 1, ys.set k x) [0] ⟨h, by simpa using hy, take_set_get hxk hr (by omega)⟩ (Nat.sub_lt_sub_left h (Nat.lt_succ_self _)) ?_
      simp only [mvcgen_simp, method_specs_simp, seval, e]
    · simp only [decide_eq_false_iff_not, Bool.not_true, Int.ofNat_lt] at h
      have hi : k = xs.length := by omega
      subst hi
      have e : ys = xs := by rw [← List.take_of_length_le (Nat.le_refl xs.length), ← hr, List.take_of_length_le (by omega)]
      subst e
      refine LResY.mk [0] ?_
      simp only [mvcgen_simp, method_specs_simp, seval]
theorem c_toInt64S (xs : List Int) (hx : xs.length < 2 ^ 44) : Con P 34 [.sl 1 (xs.map encI)] (.sl 1 (xs.map encI)) := by
  have h := (n_toInt64S (P := P) xs hx).con (by simp only [method_specs_simp])
  have e : convR [Ob.arr true 1 (xs.map encI)] (.ar 0 0 xs.length) = .sl 1 (xs.map encI) := by simp only [method_specs_simp, take_all3]
  rwa [e] at h
theorem c_toEvent (e : Ev) (he : EvOK e) : Con P 57 [.agg (encEv e)] (.agg (encEv e)) := by
  refine Con.of (n := 33) (rs := [.cell 2 67]) (Is.fn Try.func57) rfl (Is.call Try.call57) Try.results57 Try.ntmps57 (encEv_ref1 _ e) ?_
  simp (maxSteps := 4000000) only [method_specs_simp, seval]
  simp (maxSteps := 4000000) only [method_specs_simp, seval, encEv]
  refine clY.con (c_toInt64S e.prev he.2) (by simp only [method_specs_simp]) ?_
  simp (maxSteps := 4000000) only [method_specs_simp, seval]
  rfl
/-- The first k rows laid, the others zero. -/
def rowZ {α : Type} (f : α → List V) (z : List V) (xs : List α) (k : Nat) : List (List V) := (xs.take k).map f ++ List.replicate (xs.length - k) z
theorem rowZ_length {α : Type} {f : α → List V} {z : List V} {xs : List α} {k : Nat} (hk : k ≤ xs.length) : (rowZ f z xs k).length = xs.length := by
  simp [rowZ, Nat.min_eq_left hk]; omega
theorem rowZ_zero {α : Type} (f : α → List V) (z : List V) (xs : List α) : rowZ f z xs 0 = List.replicate xs.length z := by simp [rowZ]
theorem rowZ_all {α : Type} (f : α → List V) (z : List V) (xs : List α) : rowZ f z xs xs.length = xs.map f := by simp [rowZ]
theorem rowZ_set {α : Type} {f : α → List V} {z : List V} {xs : List α} {k : Nat} {x : α} (hx : xs[k]? = some x) : (rowZ f z xs k).set k (f x) = rowZ f z xs (k + 1) := by
  have hk := (List.getElem?_eq_some_iff.1 hx).1
  unfold rowZ
  rw [List.set_append_right _ _ (by simp; omega), show xs.length - k = (xs.length - (k + 1)) + 1 by omega, List.replicate_succ]
  have e : k - ((xs.take k).map f).length = 0 := by simp; omega
  rw [e, List.set_cons_zero, List.take_add_one, hx]
  simp
theorem rowZ_get {α : Type} {f : α → List V} {z : List V} {xs : List α} {k : Nat} (hk : k < xs.length) : (rowZ f z xs k).getD k [] = z := by
  unfold rowZ
  rw [List.getD_eq_getElem?_getD, List.getElem?_append_right (by simp; omega)]
  have e : k - ((xs.take k).map f).length = 0 := by simp; omega
  rw [e, show xs.length - k = (xs.length - (k + 1)) + 1 by omega, List.replicate_succ]
  rfl
theorem rowZ_refs {α : Type} {ok : Nat → Prop} {f : α → List V} {z : List V} (hf : ∀ x, Refs ok (f x)) (hz : Refs ok z) (xs : List α) (k : Nat) : Refss ok (rowZ f z xs k) := Refss.of fun x hx => by
  rcases List.mem_append.1 hx with hx | hx
  · obtain ⟨a, _, rfl⟩ := List.mem_map.1 hx; exact hf a
  · rw [List.eq_of_mem_replicate hx]; exact hz
theorem rowZ_rens {α : Type} {ρ : Nat → Nat} {f : α → List V} {z : List V} (hf : ∀ x, Refs (fun _ => False) (f x)) (hz : Refs (fun _ => False) z) (xs : List α) (k : Nat) : renss ρ (rowZ f z xs k) = rowZ f z xs k := renss_pure _ (rowZ_refs hf hz xs k)
def zEv : List V := [.int .i64 0, .int .i64 0, .int .i64 0, .int .i64 0, .int .i64 0, .int .i64 0, .str ByteArray.empty, .nil, .int .i64 0]
@[method_specs_simp] theorem rowE_refs (ok : Nat → Prop) (xs : List Ev) (k : Nat) : Refss ok (rowZ encEv zEv xs k) = True := eq_true (rowZ_refs (fun x => encEv_ref1 ok x) (by simp [zEv, Refs, Ref]) xs k)
@[method_specs_simp] theorem rowE_rens (ρ : Nat → Nat) (xs : List Ev) (k : Nat) : renss ρ (rowZ encEv zEv xs k) = rowZ encEv zEv xs k := rowZ_rens (fun x => encEv_ref1 _ x) (by simp [zEv, Refs, Ref]) xs k
theorem c_toEventS (xs : List Ev) (hx : EvsOK xs) : Con P 133 [.sl 9 (xs.map encEv)] (.sl 9 (xs.map encEv)) := by
  have hx1 := hx.1
  refine Con.of (n := 23) (rs := [.tmp 2]) (Is.fn Try.func133) rfl (Is.call Try.call133) Try.results133 Try.ntmps133 (by simp only [method_specs_simp]) ?_
  simp (maxSteps := 4000000) only [method_specs_simp, seval]
  refine ⟨by omega, by omega, by omega, ?_⟩
  refine SW.while (A := Nat) (fun k => ⟨pad 23 [.sl 9 (xs.map encEv), .junk, .nil, .ar 0 0 xs.length, .int .i64 k], [.arr true 9 (rowZ encEv zEv xs k)], []⟩) (fun k => xs.length - k) (fun k => k ≤ xs.length) 0 [0] (Nat.zero_le _) ?_ ?_
  · have ez : List.replicate xs.length [V.int .i64 0, .int .i64 0, .int .i64 0, .int .i64 0, .int .i64 0, .int .i64 0, .str ByteArray.empty, .nil, .int .i64 0] = rowZ encEv zEv xs 0 := (rowZ_zero _ _ _).symm
    rw [ez]
    simp only [mvcgen_simp, method_specs_simp, seval]
  · intro k hk
    refine CW.sound ?_
    simp (maxSteps := 4000000) only [method_specs_simp, seval]
    refine gB_split (fun h => ?_) (fun h => ?_)
    · simp only [decide_eq_true_eq, Int.ofNat_lt] at h
      have hxk : xs[k]? = some xs[k] := List.getElem?_eq_getElem h
      have hOK := hx.2 _ (List.getElem_mem h)
      generalize xs[k] = x at hxk hOK
      simp (maxSteps := 4000000) only [List.getElem?_map, hxk, method_specs_simp, seval]
      refine ⟨by omega, by omega, by simp [encEv], ?_⟩
      rw [show List.take 9 (encEv x) = encEv x from rfl]
      refine clY.con (c_toEvent x hOK) (by simp only [method_specs_simp, encEv]) ?_
      simp (maxSteps := 4000000) only [method_specs_simp, seval]
      rw [rowZ_get h]
      refine ⟨by omega, by omega, by rw [rowZ_length hk]; exact h, by simp [encEv, oneV], rfl, by simp [encEv], ?_⟩
      rw [wrap_id (by omega) (by omega), show encEv x ++ List.drop (encEv x).length zEv = encEv x from rfl, rowZ_set hxk]
      refine Again.mk (k + 1) [0] h (Nat.sub_lt_sub_left h (Nat.lt_succ_self _)) ?_
      simp only [mvcgen_simp, method_specs_simp, seval]
    · simp only [decide_eq_false_iff_not, Bool.not_true, Int.ofNat_lt] at h
      have hi : k = xs.length := by omega
      subst hi
      rw [rowZ_all]
      simp (maxSteps := 4000000) only [method_specs_simp, seval]
theorem c_toGraph (g : Gr) (hg : GrOK g) : Con P 43 [.agg (encGr g)] (.agg (encGr g)) := by
  refine Con.of (n := 16) (rs := [.cell 2 71]) (Is.fn Try.func43) rfl (Is.call Try.call43) Try.results43 Try.ntmps43 (encGr_ref1 _ g) ?_
  simp (maxSteps := 4000000) only [method_specs_simp, seval]
  simp (maxSteps := 4000000) only [method_specs_simp, seval, encGr]
  refine clY.con (c_toEventS g.events hg.1) (by simp only [method_specs_simp]) ?_
  simp (maxSteps := 4000000) only [method_specs_simp, seval]
  refine clY.con (c_toEventS g.parked hg.2) (by simp only [method_specs_simp]) ?_
  simp (maxSteps := 4000000) only [method_specs_simp, seval]
  rfl
end
end Go.Proofs.Ytkcllejnmpnjfaa
