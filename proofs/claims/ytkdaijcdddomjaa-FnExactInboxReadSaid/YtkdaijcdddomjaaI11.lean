/- The given statement FnExactInboxReadSaid: for every input the law returns true, and its arguments read afterwards as they read before. No conditions. -/
import Derived.Test.YtkdaijcdddomjaaI10
import Derived.Test.YtkdaijcdddomjaaPm23
import Derived.WalkKit
import Derived.ProofKit
import Derived.OpenShut
import Derived.ShutString
import Derived.ChangeOld
import Derived.Below
import Derived.SizedLaws
namespace Go.Proofs.Ytkdaijcdddomjaa
open Go.Pm
open Go.ChangeShapes Go.WideShapes Go.ChangeAt Go.RowKit
set_option linter.unusedVariables false
set_option maxRecDepth 100000

def tNote : Ty := .st [.int .i64, .int .i64, .str]
def tInbox : Ty := .st [.int .i64, .sl 3 32 tNote]
theorem in_note {xs : List V} (h : In tNote xs) : ∃ x : Note, xs = encNote x := by
  obtain ⟨a, b, rfl, ⟨n, rfl, _⟩, c, d, rfl, ⟨m, rfl, _⟩, e, f, rfl, ⟨s, rfl, _⟩, rfl⟩ := h
  exact ⟨⟨n, m, s⟩, rfl⟩
theorem list_map_of {α β : Type} {p : α → β → Prop} {f : β → α} (hf : ∀ a b, p a b → a = f b) : ∀ {l : List α}, (∀ a ∈ l, ∃ b, p a b) → ∃ m : List β, l = m.map f
  | [], _ => ⟨[], rfl⟩
  | a :: l, h => by
    obtain ⟨b, hb⟩ := h a List.mem_cons_self
    obtain ⟨m, hm⟩ := list_map_of hf fun x hx => h x (List.mem_cons_of_mem _ hx)
    exact ⟨b :: m, by rw [hm, hf a b hb]; rfl⟩
theorem in_inbox {xs : List V} (h : In tInbox xs) : ∃ (n : Int) (ns : List Note), xs = [.int .i64 n, .sl 3 (ns.map encNote)] ∧ ns.length * 32 ≤ reachBytes := by
  obtain ⟨a, b, rfl, ⟨n, rfl, _⟩, c, d, rfl, ⟨rows, rfl, hl, hr⟩, rfl⟩ := h
  obtain ⟨ns, rfl⟩ := list_map_of (p := fun a b => a = encNote b) (fun _ _ h => h) fun r hr' => in_note (hr r hr')
  exact ⟨n, ns, rfl, by simpa using hl⟩
theorem ok_inbox : OKT Try.prog tInbox 24 := by
  refine ⟨_, Try.underlying24, rfl, Try.underlying2, rfl, ⟨157, Try.underlying22, ⟨_, Try.underlying157, rfl, Try.underlying2, rfl, Try.underlying2, rfl, Try.underlying9, ?_⟩, ?_, ?_, ?_⟩, ?_⟩
  all_goals first | kernel_rfl | decide | (show (_ : Nat) = _; kernel_rfl)
namespace inboxRead
theorem own : ownKnob Try.prog.godebug = none := by kernel_rfl
theorem laidOut : laidOutB Try.prog = true := by kernel_rfl
theorem lifted (os : Os) (started : os.Started) (H : Type) (enc : TypeId × Value → H) :
    ReturnsInHanded {} Try.checked os 6 .any (Rows.fnExactInboxReadSpec.pre6 enc Try.prog Try.f6 Rows.fnExactInboxReadRow.domain false) (Rows.fnExactInboxReadSpec.post enc Try.prog Try.f6 false true false false) := by
  refine returnsInHanded_of_change_sized (C := Try.checked) own started (by kernel_rfl) Try.func6
    (ChangeSpec.witness6 (enc := enc) (C := Try.checked) false ⟨#[], #[.agg #[.int .i64 0, .slice none 0 0], .int .i64 0], []⟩ 8 (by kernel_rfl) (by kernel_rfl) (by kernel_rfl) (by kernel_rfl)) ?_
  intro W base args ds gs before hval0 hW hcnd hsz0 _
  have hsz : (DataW.weightsEach Try.prog (Try.f6.params.toList ++ Rows.fnExactInboxReadSpec.plain.varTypes Try.prog) (ds ++ gs)).all (· ≤ reachBytes) = true := hsz0
  have hval : ∀ (j : Nat) t v, Try.f6.params[j]? = some t → args[j]? = some v → Value.okWide Try.prog W .any base t v := hval0
  have hW' := hW
  obtain ⟨p, q, hA0, hV, rfl, hfz, hnd⟩ := hW
  have hA : DataW.TrodAll enc Try.prog W 0 (fun _ => true) true Try.f6.params.toList args.toList ds p := hA0
  rw [Try.params6] at hA hval hsz
  obtain ⟨v0, vs0, d0, ds0, p0, q0, hargs, rfl, rfl, h0, r0⟩ := trodAll_cons hA
  obtain ⟨v1, vs1, d1, ds1, p1, q1, rfl, rfl, rfl, h1, r1⟩ := trodAll_cons r0
  obtain ⟨rfl, rfl, rfl⟩ := trodAll_nil r1
  obtain rfl : args = #[v0, v1] := by cases args; simp_all
  obtain ⟨rfl, rfl⟩ := trodVars_none hV
  have hv := hval 0 24 v0 rfl rfl
  obtain ⟨cs, rfl⟩ : ∃ cs, v0 = .agg cs := by
    unfold Value.okWide at hv
    rw [Try.underlying24] at hv
    obtain ⟨cs, h, _⟩ := hv
    exact ⟨cs, h⟩
  have hv1 := hval 1 2 v1 rfl rfl
  obtain ⟨lim, rfl⟩ : ∃ lim, v1 = .int .i64 lim := by
    unfold Value.okWide at hv1
    rw [Try.underlying2] at hv1
    cases v1 <;> first | exact hv1.elim | exact ⟨_, by rw [hv1.1]⟩
  have k1 := h1
  have lt1 : ∀ x ∈ p1, x.block < W.heap.size := by obtain ⟨m, hm⟩ := k1; exact DataW.trod_lt m _ _ _ hm
  have k0 := h0
  have lt0 : ∀ x ∈ p0, x.block < W.heap.size := by obtain ⟨m, hm⟩ := k0; exact DataW.trod_lt m _ _ _ hm
  obtain ⟨fuel, hf⟩ := h0
  obtain ⟨xs, hxs, hin⟩ := read_sound tInbox 24 fuel cs.toList _ ok_inbox hf (fun n hn => by
    have := List.all_eq_true.1 hsz n (DataW.weights_mem_each (j := 0) rfl rfl n hn)
    simpa using this)
  obtain ⟨n, ns, rfl, hlen⟩ := in_inbox hin
  have hc := (c6 (P := Try.prog) n lim ns (by have : reachBytes < 2 ^ 47 := reachBytes_lt; omega)).c W (fun _ => False) [.agg cs, .int .i64 lim] (fun _ h => h.elim) ⟨_, _, rfl, ⟨cs, rfl, hxs⟩, _, _, rfl, rfl, rfl⟩
  refine hc.mono fun e W' ⟨v, β, he, hG, _, hr, _⟩ => ?_
  subst he
  have hr : v = .bool true := hr
  subst hr
  have bel : Below W.heap.size W W' := ⟨hG.os, hG.tape, hG.output, hG.size, fun k hk => hG.block k hk⟩
  exact ⟨_, rfl, _, _, _, [], _, [], hW', trodAll_mk1 (shut_bool Try.underlying4 _), trodAll_cons_mk (Below.trod laidOut (by kernel_rfl) (of_decide_eq_true (by kernel_rfl)) k0 bel lt0) (trodAll_cons_mk (Below.trod laidOut (by kernel_rfl) (of_decide_eq_true (by kernel_rfl)) k1 bel lt1) trodAll_mk0), rfl, bel.frame _, fun h => by cases h⟩
theorem over : Rows.fnExactInboxReadRow.holds Try.pinned (OpenSpec.ofChange Rows.fnExactInboxReadSpec) :=
  OpenClaim.holds_of_wide 6 Try.f6 rfl rfl rfl rfl rfl rfl rfl ⟨rfl, rfl, rfl, rfl, rfl⟩ rfl rfl rfl rfl rfl (by kernel_rfl) Try.func6 (by kernel_rfl)
    (of_decide_eq_true (by kernel_rfl)) (by unfold Func.isWrapper; first | (rw [if_pos (by decide +kernel)]; kernel_rfl) | (rw [if_neg (by decide +kernel)]; exact ⟨rfl, rfl⟩))
    (fun os started H enc _ => lifted os started H enc)
end inboxRead
theorem fnExactInboxRead_holds : Rows.FnExactInboxReadSaid := inboxRead.over
#print axioms fnExactInboxRead_holds
end Go.Proofs.Ytkdaijcdddomjaa
