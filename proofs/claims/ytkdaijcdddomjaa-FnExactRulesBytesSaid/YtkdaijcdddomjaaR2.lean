/- The type of a list of rules, as the arguments are read. No conditions. -/
import Derived.Test.YtkdaijcdddomjaaJ1
import Derived.Test.YtkdaijcdddomjaaPm23
import Derived.WalkKit
import Derived.ProofKit
import Derived.OpenShut
import Derived.ShutString
import Derived.ChangeOld
import Derived.Below
import Derived.SizedLaws
namespace Go.Proofs.Ytkdaijcdddomjaa
open Go.Pm
open Go.ChangeShapes Go.WideShapes Go.ChangeAt Go.RowKit
set_option linter.unusedVariables false
set_option maxRecDepth 100000

def tRule : Ty := .st [.int .i64, .int .i64, .str, .int .i64]
def tRules : Ty := .sl 4 40 tRule
theorem in_rule {xs : List V} (h : In tRule xs) : ∃ x : Rule, xs = encRule x := by
  obtain ⟨a, b, rfl, ⟨n, rfl, _⟩, c, d, rfl, ⟨m, rfl, _⟩, e, f, rfl, ⟨s, rfl, _⟩, g, i, rfl, ⟨l, rfl, _⟩, rfl⟩ := h
  exact ⟨⟨n, m, s, l⟩, rfl⟩
theorem list_map_ofR {α β : Type} {p : α → β → Prop} {f : β → α} (hf : ∀ a b, p a b → a = f b) : ∀ {l : List α}, (∀ a ∈ l, ∃ b, p a b) → ∃ m : List β, l = m.map f
  | [], _ => ⟨[], rfl⟩
  | a :: l, h => by
    obtain ⟨b, hb⟩ := h a List.mem_cons_self
    obtain ⟨m, hm⟩ := list_map_ofR hf fun x hx => h x (List.mem_cons_of_mem _ hx)
    exact ⟨b :: m, by rw [hm, hf a b hb]; rfl⟩
theorem in_rules {xs : List V} (h : In tRules xs) : ∃ ns : List Rule, xs = [.sl 4 (ns.map encRule)] ∧ ns.length * 40 ≤ reachBytes := by
  obtain ⟨rows, rfl, hl, hr⟩ := h
  obtain ⟨ns, rfl⟩ := list_map_ofR (p := fun a b => a = encRule b) (fun _ _ h => h) fun r hr' => in_rule (hr r hr')
  exact ⟨ns, rfl, by simpa using hl⟩
theorem ok_rules : OKT Try.prog tRules 33 := by
  refine ⟨110, Try.underlying33, ⟨_, Try.underlying110, rfl, Try.underlying2, rfl, Try.underlying2, rfl, Try.underlying9, rfl, Try.underlying2, ?_⟩, ?_, ?_, ?_⟩
  all_goals first | kernel_rfl | decide | (show (_ : Nat) = _; kernel_rfl)
end Go.Proofs.Ytkdaijcdddomjaa
