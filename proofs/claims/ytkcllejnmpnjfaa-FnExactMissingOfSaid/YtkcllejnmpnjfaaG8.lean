/- What is allowed, by the program. Conditions: order, sizes that fit a machine. -/
import Derived.Test.YtkcllejnmpnjfaaG7
import Derived.Test.YtkcllejnmpnjfaaS5
namespace Go.Proofs.Ytkcllejnmpnjfaa
open Go.Pm
open Go.Gm (Ev Gr)
set_option maxRecDepth 10000
set_option linter.unusedSimpArgs false
set_option linter.unusedVariables false
set_option maxHeartbeats 1000000
/-- Whether an entry is what an event of the graph says. -/
def entOf (g : Gr) (x : Ent) : Bool := (atE g.events x.id).isSome && ((((atE g.events x.id).getD zE).kind == x.kind) && (((atE g.events x.id).getD zE).key == x.key))
def stateOk (s : List Ent) : Bool := okRow (entI 1) s && decide (s.length ≤ 400)
def stateE (g : Gr) (s : List Ent) : Bool := stateOk s && s.all (entOf g)
section
variable {P : Program} [Is P]
theorem c_indexFN (xs : List Ent) (f : FuncId) (caps : List V) (p : Ent → Bool) (hc : Refs (fun _ => False) caps) (hf : ∀ x ∈ xs, Con P f ([.agg (encEnt x)] ++ caps) (.bool (p x))) (hx : xs.length < 2 ^ 62) : Con P 185 [.sl 3 (xs.map encEnt), .fn f [] caps] (.int .i64 (idxP p xs)) := by
  refine Con.of (n := 19) (rs := [.tmp 4]) (Is.fn Try.func185) rfl (Is.call Try.call185) Try.results185 Try.ntmps185 trivial ?_
  simp (maxSteps := 4000000) only [method_specs_simp, seval]
  refine SW.while (A := Nat) (fun k => ⟨pad 19 [.sl 3 (xs.map encEnt), .fn f [] caps, .junk, .junk, .int .i64 0, .junk, .sl 3 (xs.map encEnt), .int .i64 xs.length, .int .i64 k], [], []⟩) (fun k => xs.length - k)
    (fun k => k ≤ xs.length ∧ idxP p xs = if (xs.drop k).any p then (k : Int) + (((xs.drop k).findIdx p : Nat) : Int) else -1) 0 [] ⟨Nat.zero_le _, by simp [idxP]⟩ ?_ ?_
  · simp only [mvcgen_simp, method_specs_simp, seval, rens_pure _ hc]
    exact Refs.mono (fun _ h => h.elim) _ hc
  · rintro k ⟨hk, hr⟩
    rw [hr]
    refine CW.sound ?_
    simp (maxSteps := 4000000) only [method_specs_simp, seval]
    refine gB_split (fun h => ?_) (fun h => ?_)
    · simp only [decide_eq_true_eq, Int.ofNat_lt] at h
      have hxk : xs[k]? = some xs[k] := List.getElem?_eq_getElem h
      have hfk := hf _ (List.getElem_mem h)
      generalize xs[k] = x at hxk hfk
      rw [drop_cons hxk]
      simp (maxSteps := 4000000) only [List.getElem?_map, hxk, method_specs_simp, seval]
      refine ⟨by omega, by omega, by simp [encEnt], ?_⟩
      rw [show List.take 3 (encEnt x) = encEnt x from rfl]
      refine clY.conC hfk rfl ⟨of_eq_true (encEnt_refs1 _ x), hc⟩ ?_
      simp (maxSteps := 4000000) only [method_specs_simp, seval]
      refine gB_split (fun h1 => ?_) (fun h1 => ?_)
      · rw [idxP_hit h1]
      · rw [wrap_id (by omega) (by omega), idxP_miss h1]
        refine Again.mk (k + 1) [] ⟨h, rfl⟩ (Nat.sub_lt_sub_left h (Nat.lt_succ_self _)) ?_
        simp only [mvcgen_simp, method_specs_simp, seval, rens_pure _ hc]
        exact Refs.mono (fun _ h => h.elim) _ hc
    · simp only [decide_eq_false_iff_not, Bool.not_true, Int.ofNat_lt] at h
      rw [List.drop_eq_nil_of_le (by omega)]
      simp
theorem stateE_ss {g : Gr} {s : List Ent} (h : stateE g s = true) : s.Pairwise ltE ∧ s.length ≤ 400 := by
  simp only [stateE, stateOk, Bool.and_eq_true, decide_eq_true_eq] at h
  exact ⟨okRow_sorted h.1.1, h.1.2⟩
theorem grRight_srt {g : Gr} (h : Gm.grRight g = true) : Gm.Srt g.events ∧ Gm.Srt g.parked := by
  simp only [Gm.grRight, Gm.rowR, Bool.and_eq_true] at h
  exact ⟨(Gm.rowFrom_srt h.2.1.2).1, (Gm.rowFrom_srt h.2.2.1.2).1⟩
def allowedG (g : Gr) (s : List Ent) (e : Ev) : Int := if (Gm.grRight g && (Gm.evRight e && stateE g s)) = true then allowedE g s e else 1
end
end Go.Proofs.Ytkcllejnmpnjfaa
