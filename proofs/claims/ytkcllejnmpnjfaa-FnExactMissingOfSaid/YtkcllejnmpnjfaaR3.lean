/- The types of an entry and of a list of entries, as the arguments are read. No conditions. -/
import Derived.Test.YtkcllejnmpnjfaaS1
import Derived.Test.YtkcllejnmpnjfaaL3
import Derived.WalkKit
import Derived.ProofKit
import Derived.OpenShut
import Derived.ShutString
import Derived.ChangeOld
import Derived.Below
import Derived.SizedLaws
namespace Go.Proofs.Ytkcllejnmpnjfaa
open Go.Pm
open Go.ChangeShapes Go.WideShapes Go.ChangeAt Go.RowKit
set_option linter.unusedVariables false
set_option maxRecDepth 100000

def tEnt : Ty := .st [.int .i64, .int .i64, .int .i64]
def tEnts : Ty := .sl 3 24 tEnt
theorem in_ent {xs : List V} (h : In tEnt xs) : ∃ x : Ent, xs = encEnt x := by
  obtain ⟨a, b, rfl, ⟨n, rfl, _⟩, c, d, rfl, ⟨m, rfl, _⟩, e, f, rfl, ⟨l, rfl, _⟩, rfl⟩ := h
  exact ⟨⟨n, m, l⟩, rfl⟩
theorem list_map_ofE {α β : Type} {p : α → β → Prop} {f : β → α} (hf : ∀ a b, p a b → a = f b) : ∀ {l : List α}, (∀ a ∈ l, ∃ b, p a b) → ∃ m : List β, l = m.map f
  | [], _ => ⟨[], rfl⟩
  | a :: l, h => by
    obtain ⟨b, hb⟩ := h a List.mem_cons_self
    obtain ⟨m, hm⟩ := list_map_ofE hf fun x hx => h x (List.mem_cons_of_mem _ hx)
    exact ⟨b :: m, by rw [hm, hf a b hb]; rfl⟩
theorem in_ents {xs : List V} (h : In tEnts xs) : ∃ ns : List Ent, xs = [.sl 3 (ns.map encEnt)] ∧ ns.length * 24 ≤ reachBytes := by
  obtain ⟨rows, rfl, hl, hr⟩ := h
  obtain ⟨ns, rfl⟩ := list_map_ofE (p := fun a b => a = encEnt b) (fun _ _ h => h) fun r hr' => in_ent (hr r hr')
  exact ⟨ns, rfl, by simpa using hl⟩
theorem ok_ent : OKT Try.prog tEnt 191 := by
  refine ⟨_, Try.underlying191, rfl, Try.underlying2, rfl, Try.underlying2, rfl, Try.underlying2, ?_⟩
  all_goals first | kernel_rfl | decide | (show (_ : Nat) = _; kernel_rfl)
theorem ok_ents : OKT Try.prog tEnts 44 := by
  refine ⟨_, Try.underlying44, ok_ent, ?_, ?_, ?_⟩
  all_goals first | kernel_rfl | decide | (show (_ : Nat) = _; kernel_rfl)
end Go.Proofs.Ytkcllejnmpnjfaa
