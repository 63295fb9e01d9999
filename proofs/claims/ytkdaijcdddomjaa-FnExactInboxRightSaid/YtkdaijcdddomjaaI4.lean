/- The given statement FnExactInboxRightSaid: for every input the law returns true, and its argument reads afterwards as it read before. No conditions. -/
import Derived.Test.YtkdaijcdddomjaaI3
import Derived.Test.YtkdaijcdddomjaaPm23
import Derived.WalkKit
import Derived.ProofKit
import Derived.OpenShut
import Derived.ShutString
import Derived.ChangeOld
import Derived.Below
import Derived.SizedLaws
namespace Go.Proofs.Ytkdaijcdddomjaa
open Go.Pm
open Go.ChangeShapes Go.WideShapes Go.ChangeAt Go.RowKit
set_option linter.unusedVariables false
set_option maxRecDepth 100000

def tNote : Ty := .st [.int .i64, .int .i64, .str]
def tInbox : Ty := .st [.int .i64, .sl 3 32 tNote]
theorem in_note {xs : List V} (h : In tNote xs) : ∃ x : Note, xs = encNote x := by
  obtain ⟨a, b, rfl, ⟨n, rfl, _⟩, c, d, rfl, ⟨m, rfl, _⟩, e, f, rfl, ⟨s, rfl, _⟩, rfl⟩ := h
  exact ⟨⟨n, m, s⟩, rfl⟩
theorem list_map_of {α β : Type} {p : α → β → Prop} {f : β → α} (hf : ∀ a b, p a b → a = f b) : ∀ {l : List α}, (∀ a ∈ l, ∃ b, p a b) → ∃ m : List β, l = m.map f
  | [], _ => ⟨[], rfl⟩
  | a :: l, h => by
    obtain ⟨b, hb⟩ := h a List.mem_cons_self
    obtain ⟨m, hm⟩ := list_map_of hf fun x hx => h x (List.mem_cons_of_mem _ hx)
    exact ⟨b :: m, by rw [hm, hf a b hb]; rfl⟩
theorem in_inbox {xs : List V} (h : In tInbox xs) : ∃ (n : Int) (ns : List Note), xs = [.int .i64 n, .sl 3 (ns.map encNote)] ∧ ns.length * 32 ≤ reachBytes := by
  obtain ⟨a, b, rfl, ⟨n, rfl, _⟩, c, d, rfl, ⟨rows, rfl, hl, hr⟩, rfl⟩ := h
  obtain ⟨ns, rfl⟩ := list_map_of (p := fun a b => a = encNote b) (fun _ _ h => h) fun r hr' => in_note (hr r hr')
  exact ⟨n, ns, rfl, by simpa using hl⟩
theorem ok_inbox : OKT Try.prog tInbox 24 := by
  refine ⟨_, Try.underlying24, rfl, Try.underlying2, rfl, ⟨157, Try.underlying22, ⟨_, Try.underlying157, rfl, Try.underlying2, rfl, Try.underlying2, rfl, Try.underlying9, ?_⟩, ?_, ?_, ?_⟩, ?_⟩
  all_goals first | kernel_rfl | decide | (show (_ : Nat) = _; kernel_rfl)
namespace inboxRight
theorem own : ownKnob Try.prog.godebug = none := by kernel_rfl
theorem laidOut : laidOutB Try.prog = true := by kernel_rfl
theorem lifted (os : Os) (started : os.Started) (H : Type) (enc : TypeId × Value → H) :
    ReturnsInHanded {} Try.checked os 3 .any (Rows.fnExactInboxRightSpec.pre6 enc Try.prog Try.f3 Rows.fnExactInboxRightRow.domain false) (Rows.fnExactInboxRightSpec.post enc Try.prog Try.f3 false true false false) := by
  refine returnsInHanded_of_change_sized (C := Try.checked) own started (by kernel_rfl) Try.func3
    (ChangeSpec.witness6 (enc := enc) (C := Try.checked) false ⟨#[], #[.agg #[.int .i64 0, .slice none 0 0]], []⟩ 8 (by kernel_rfl) (by kernel_rfl) (by kernel_rfl) (by kernel_rfl)) ?_
  intro W base args ds gs before hval0 hW hcnd hsz0 _
  have hsz : (DataW.weightsEach Try.prog (Try.f3.params.toList ++ Rows.fnExactInboxRightSpec.plain.varTypes Try.prog) (ds ++ gs)).all (· ≤ reachBytes) = true := hsz0
  have hval : ∀ (j : Nat) t v, Try.f3.params[j]? = some t → args[j]? = some v → Value.okWide Try.prog W .any base t v := hval0
  have hW' := hW
  obtain ⟨p, q, hA0, hV, rfl, hfz, hnd⟩ := hW
  have hA : DataW.TrodAll enc Try.prog W 0 (fun _ => true) true Try.f3.params.toList args.toList ds p := hA0
  rw [Try.params3] at hA hval hsz
  obtain ⟨v0, vs0, d0, ds0, p0, q0, hargs, rfl, rfl, h0, r0⟩ := trodAll_cons hA
  obtain ⟨rfl, rfl, rfl⟩ := trodAll_nil r0
  obtain rfl : args = #[v0] := by cases args; simp_all
  obtain ⟨rfl, rfl⟩ := trodVars_none hV
  have hv := hval 0 24 v0 rfl rfl
  obtain ⟨cs, rfl⟩ : ∃ cs, v0 = .agg cs := by
    unfold Value.okWide at hv
    rw [Try.underlying24] at hv
    obtain ⟨cs, h, _⟩ := hv
    exact ⟨cs, h⟩
  have k0 := h0
  have lt0 : ∀ x ∈ p0, x.block < W.heap.size := by obtain ⟨m, hm⟩ := k0; exact DataW.trod_lt m _ _ _ hm
  obtain ⟨fuel, hf⟩ := h0
  obtain ⟨xs, hxs, hin⟩ := read_sound tInbox 24 fuel cs.toList _ ok_inbox hf (fun n hn => by
    have := List.all_eq_true.1 hsz n (DataW.weights_mem_each (j := 0) rfl rfl n hn)
    simpa using this)
  obtain ⟨n, ns, rfl, hlen⟩ := in_inbox hin
  have hc := (c3 (P := Try.prog) n ns (by have : reachBytes < 2 ^ 47 := reachBytes_lt; omega)).c W (fun _ => False) [.agg cs] (fun _ h => h.elim) (RVs.one ⟨cs, rfl, hxs⟩)
  refine hc.mono fun e W' ⟨v, β, he, hG, _, hr, _⟩ => ?_
  subst he
  have hr : v = .bool true := hr
  subst hr
  have bel : Below W.heap.size W W' := ⟨hG.os, hG.tape, hG.output, hG.size, fun k hk => hG.block k hk⟩
  exact ⟨_, rfl, _, _, _, [], _, [], hW', trodAll_mk1 (shut_bool Try.underlying4 _), trodAll_cons_mk (Below.trod laidOut (by kernel_rfl) (of_decide_eq_true (by kernel_rfl)) k0 bel lt0) trodAll_mk0, rfl, bel.frame _, fun h => by cases h⟩
theorem over : Rows.fnExactInboxRightRow.holds Try.pinned (OpenSpec.ofChange Rows.fnExactInboxRightSpec) :=
  OpenClaim.holds_of_wide 3 Try.f3 rfl rfl rfl rfl rfl rfl rfl ⟨rfl, rfl, rfl, rfl, rfl⟩ rfl rfl rfl rfl rfl (by kernel_rfl) Try.func3 (by kernel_rfl)
    (of_decide_eq_true (by kernel_rfl)) (by unfold Func.isWrapper; first | (rw [if_pos (by decide +kernel)]; kernel_rfl) | (rw [if_neg (by decide +kernel)]; exact ⟨rfl, rfl⟩))
    (fun os started H enc _ => lifted os started H enc)
end inboxRight
theorem fnExactInboxRight_holds : Rows.FnExactInboxRightSaid := inboxRight.over
#print axioms fnExactInboxRight_holds
end Go.Proofs.Ytkdaijcdddomjaa
