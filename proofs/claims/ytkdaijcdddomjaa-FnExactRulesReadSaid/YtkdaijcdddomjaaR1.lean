/- The type Inbox, as the arguments are read. No conditions. -/
import Derived.Test.YtkdaijcdddomjaaI1
import Derived.Test.YtkdaijcdddomjaaPm23
import Derived.WalkKit
import Derived.ProofKit
import Derived.OpenShut
import Derived.ShutString
import Derived.ChangeOld
import Derived.Below
import Derived.SizedLaws
namespace Go.Proofs.Ytkdaijcdddomjaa
open Go.Pm
open Go.ChangeShapes Go.WideShapes Go.ChangeAt Go.RowKit
set_option linter.unusedVariables false
set_option maxRecDepth 100000

def tNote : Ty := .st [.int .i64, .int .i64, .str]
def tInbox : Ty := .st [.int .i64, .sl 3 32 tNote]
theorem in_note {xs : List V} (h : In tNote xs) : ∃ x : Note, xs = encNote x := by
  obtain ⟨a, b, rfl, ⟨n, rfl, _⟩, c, d, rfl, ⟨m, rfl, _⟩, e, f, rfl, ⟨s, rfl, _⟩, rfl⟩ := h
  exact ⟨⟨n, m, s⟩, rfl⟩
theorem list_map_of {α β : Type} {p : α → β → Prop} {f : β → α} (hf : ∀ a b, p a b → a = f b) : ∀ {l : List α}, (∀ a ∈ l, ∃ b, p a b) → ∃ m : List β, l = m.map f
  | [], _ => ⟨[], rfl⟩
  | a :: l, h => by
    obtain ⟨b, hb⟩ := h a List.mem_cons_self
    obtain ⟨m, hm⟩ := list_map_of hf fun x hx => h x (List.mem_cons_of_mem _ hx)
    exact ⟨b :: m, by rw [hm, hf a b hb]; rfl⟩
theorem in_inbox {xs : List V} (h : In tInbox xs) : ∃ (n : Int) (ns : List Note), xs = [.int .i64 n, .sl 3 (ns.map encNote)] ∧ ns.length * 32 ≤ reachBytes := by
  obtain ⟨a, b, rfl, ⟨n, rfl, _⟩, c, d, rfl, ⟨rows, rfl, hl, hr⟩, rfl⟩ := h
  obtain ⟨ns, rfl⟩ := list_map_of (p := fun a b => a = encNote b) (fun _ _ h => h) fun r hr' => in_note (hr r hr')
  exact ⟨n, ns, rfl, by simpa using hl⟩
theorem ok_inbox : OKT Try.prog tInbox 24 := by
  refine ⟨_, Try.underlying24, rfl, Try.underlying2, rfl, ⟨157, Try.underlying22, ⟨_, Try.underlying157, rfl, Try.underlying2, rfl, Try.underlying2, rfl, Try.underlying9, ?_⟩, ?_, ?_, ?_⟩, ?_⟩
  all_goals first | kernel_rfl | decide | (show (_ : Nat) = _; kernel_rfl)
end Go.Proofs.Ytkdaijcdddomjaa
