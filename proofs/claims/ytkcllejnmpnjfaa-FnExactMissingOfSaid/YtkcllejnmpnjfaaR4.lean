/- The types of a graph and of an event, as the arguments are read. No conditions. -/
import Derived.Test.YtkcllejnmpnjfaaG1
import Derived.Test.YtkcllejnmpnjfaaL3
import Derived.WalkKit
import Derived.ProofKit
import Derived.OpenShut
import Derived.ShutString
import Derived.ChangeOld
import Derived.Below
import Derived.SizedLaws
namespace Go.Proofs.Ytkcllejnmpnjfaa
open Go.Pm
open Go.Gm (Ev Gr)
open Go.ChangeShapes Go.WideShapes Go.ChangeAt Go.RowKit
set_option linter.unusedVariables false
set_option maxRecDepth 100000

def tInts : Ty := .sl 1 8 (.int .i64)
def tEvent : Ty := .st [.int .i64, .int .i64, .int .i64, .int .i64, .int .i64, .int .i64, .str, tInts, .int .i64]
def tEvents : Ty := .sl 9 96 tEvent
def tGraph : Ty := .st [.int .i64, tEvents, tEvents]
theorem list_map_ofG {α β : Type} {p : α → β → Prop} {q : β → Prop} {f : β → α} (hf : ∀ a b, p a b → a = f b ∧ q b) : ∀ {l : List α}, (∀ a ∈ l, ∃ b, p a b) → ∃ m : List β, l = m.map f ∧ ∀ b ∈ m, q b
  | [], _ => ⟨[], rfl, fun _ h => by cases h⟩
  | a :: l, h => by
    obtain ⟨b, hb⟩ := h a List.mem_cons_self
    obtain ⟨m, hm, hq⟩ := list_map_ofG hf fun x hx => h x (List.mem_cons_of_mem _ hx)
    refine ⟨b :: m, by rw [hm, (hf a b hb).1]; rfl, fun x hx => ?_⟩
    rcases List.mem_cons.1 hx with rfl | hx
    · exact (hf a _ hb).2
    · exact hq x hx
theorem in_ints {xs : List V} (h : In tInts xs) : ∃ l : List Int, xs = [.sl 1 (l.map encI)] ∧ l.length * 8 ≤ reachBytes := by
  obtain ⟨rows, rfl, hl, hr⟩ := h
  obtain ⟨l, rfl, _⟩ := list_map_ofG (p := fun a b => a = encI b) (q := fun _ => True) (fun _ _ h => ⟨h, trivial⟩) fun r hr' => by
    obtain ⟨n, h, _⟩ := hr r hr'
    exact ⟨n, h⟩
  exact ⟨l, rfl, by simpa using hl⟩
theorem in_event {xs : List V} (h : In tEvent xs) : ∃ e : Ev, xs = encEv e ∧ EvOK e := by
  obtain ⟨_, _, rfl, ⟨a, rfl, _⟩, _, _, rfl, ⟨b, rfl, _⟩, _, _, rfl, ⟨c, rfl, _⟩, _, _, rfl, ⟨d, rfl, _⟩, _, _, rfl, ⟨e, rfl, _⟩, _, _, rfl, ⟨f, rfl, _⟩, _, _, rfl, ⟨s, rfl, hs⟩, _, _, rfl, hp, _, _, rfl, ⟨t, rfl, _⟩, rfl⟩ := h
  obtain ⟨l, rfl, hl⟩ := in_ints hp
  have h0 := reachBytes_lt
  exact ⟨⟨a, b, c, d, e, f, s, l, t⟩, rfl, by show s.size < _; omega, by show l.length < _; omega⟩
theorem in_events {xs : List V} (h : In tEvents xs) : ∃ l : List Ev, xs = [.sl 9 (l.map encEv)] ∧ EvsOK l := by
  obtain ⟨rows, rfl, hl, hr⟩ := h
  obtain ⟨l, rfl, hq⟩ := list_map_ofG (p := fun a b => a = encEv b ∧ EvOK b) (q := EvOK) (fun _ _ h => h) fun r hr' => in_event (hr r hr')
  have h0 := reachBytes_lt
  exact ⟨l, rfl, by simp only [List.length_map] at hl; omega, hq⟩
theorem in_graph {xs : List V} (h : In tGraph xs) : ∃ g : Gr, xs = encGr g ∧ GrOK g := by
  obtain ⟨_, _, rfl, ⟨a, rfl, _⟩, _, _, rfl, hb, _, _, rfl, hc, rfl⟩ := h
  obtain ⟨b, rfl, hb2⟩ := in_events hb
  obtain ⟨c, rfl, hc2⟩ := in_events hc
  exact ⟨⟨a, b, c⟩, rfl, hb2, hc2⟩
theorem ok_ints : OKT Try.prog tInts 48 := by
  refine ⟨_, Try.underlying48, Try.underlying2, ?_, ?_, ?_⟩
  all_goals first | kernel_rfl | decide | (show (_ : Nat) = _; kernel_rfl)
theorem ok_event : OKT Try.prog tEvent 81 := by
  refine ⟨_, Try.underlying81, rfl, Try.underlying2, rfl, Try.underlying2, rfl, Try.underlying2, rfl, Try.underlying2, rfl, Try.underlying2, rfl, Try.underlying2, rfl, Try.underlying9, rfl, ok_ints, rfl, Try.underlying2, ?_⟩
  all_goals first | kernel_rfl | decide | (show (_ : Nat) = _; kernel_rfl)
theorem ok_events : OKT Try.prog tEvents 62 := by
  refine ⟨_, Try.underlying62, ok_event, ?_, ?_, ?_⟩
  all_goals first | kernel_rfl | decide | (show (_ : Nat) = _; kernel_rfl)
theorem ok_graph : OKT Try.prog tGraph 64 := by
  refine ⟨_, Try.underlying64, rfl, Try.underlying2, rfl, ok_events, rfl, ok_events, ?_⟩
  all_goals first | kernel_rfl | decide | (show (_ : Nat) = _; kernel_rfl)
end Go.Proofs.Ytkcllejnmpnjfaa
