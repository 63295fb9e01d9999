/-
  No cell of these rows narrows 'for every input' (looked for: loops, veiled, ifaces, maps, wideKeys, modest, calm, conditions, laid).
  DERIVED. THE GIVEN ROWS OF THIS SEAT. 12 by the template 'for every input the law returns true; each argument reads behind the call as it read before'; 0 by the template 'total and deterministic' (their statements: YtkdaijcdddomjaaTotals.lean).
  GIVEN WITH THE SEED: the statements are not yours to turn. If you find one false, say at which input.
  Laid BY PROGRAM, IN A SANDBOX (cutbox-rows.mjs): the forced cells as the released guide's own fill.sh prints them over the translation 5a02b27489dc92a4… (all of the seat's roots in one cut). By AI agents, Wed Nov 11 2026. No macro, syntax, notation, axiom, sorry.
-/
import Derived.Test.YtkdaijcdddomjaaChecked
import GoSem.Claim
import GoSem.ClaimJoined
import GoSem.ClaimMapViews
import Derived.JoinedTies
import Derived.KernelRfl
namespace Go.Proofs.Ytkdaijcdddomjaa
/- THE CELL 'sum', in the pinned program and in every row, IS THE sha256 OF THE DUMP (.gsa) THAT YtkdaijcdddomjaaProg.lean LOADS. Nothing in Lean hashes anything: it is a label: what it is worth is what the hold of that sum in a sandbox is worth. -/
noncomputable def Try.pinned : Pinned := { name := "ytkdaijcdddomjaa", sum := "5a02b27489dc92a4c0bc839ad49b598a0fa600c277a68ab9dab10da202e5d8e1", checked := Try.checked }
namespace Rows
def none {H : Type} : Left H := { results := [], args := [] }

/-- 'laws.FnExactInboxRight': WHATEVER THE INPUT: true; the input reads as it did. -/
def fnExactInboxRightSpec : ChangeSpec := { name := "fnExactInboxRight", fn := fun _ => fun
  | [d] => { results := [.lit (.bool true)], args := [d] }
  | _ => none }
def fnExactInboxRightRow : OpenClaim := { program := "ytkdaijcdddomjaa", sum := "5a02b27489dc92a4c0bc839ad49b598a0fa600c277a68ab9dab10da202e5d8e1", func := "loop.example/g00683/laws.FnExactInboxRight", spec := "fnExactInboxRight", apart := false }
def FnExactInboxRightSaid : Prop := fnExactInboxRightRow.holds Try.pinned (OpenSpec.ofChange fnExactInboxRightSpec)

/-- ITS FALSE NEIGHBOUR: 'it returns false'. Refute it at one input. -/
def fnExactInboxRightWrong : ChangeSpec := { name := "fnExactInboxRight", fn := fun _ => fun
  | [d] => { results := [.lit (.bool false)], args := [d] }
  | _ => none }
def FnExactInboxRightWrongFalsely : Prop := fnExactInboxRightRow.holds Try.pinned (OpenSpec.ofChange fnExactInboxRightWrong)

/-- 'laws.FnExactRulesRight': WHATEVER THE INPUT: true; the input reads as it did. -/
def fnExactRulesRightSpec : ChangeSpec := { name := "fnExactRulesRight", fn := fun _ => fun
  | [d] => { results := [.lit (.bool true)], args := [d] }
  | _ => none }
def fnExactRulesRightRow : OpenClaim := { program := "ytkdaijcdddomjaa", sum := "5a02b27489dc92a4c0bc839ad49b598a0fa600c277a68ab9dab10da202e5d8e1", func := "loop.example/g00683/laws.FnExactRulesRight", spec := "fnExactRulesRight", unfollowed := true, recurses := true, apart := false }
def FnExactRulesRightSaid : Prop := fnExactRulesRightRow.holds Try.pinned (OpenSpec.ofChange fnExactRulesRightSpec)

/-- ITS FALSE NEIGHBOUR: 'it returns false'. Refute it at one input. -/
def fnExactRulesRightWrong : ChangeSpec := { name := "fnExactRulesRight", fn := fun _ => fun
  | [d] => { results := [.lit (.bool false)], args := [d] }
  | _ => none }
def FnExactRulesRightWrongFalsely : Prop := fnExactRulesRightRow.holds Try.pinned (OpenSpec.ofChange fnExactRulesRightWrong)

/-- 'laws.FnExactRulesBytes': WHATEVER THE INPUT: true; the input reads as it did. -/
def fnExactRulesBytesSpec : ChangeSpec := { name := "fnExactRulesBytes", fn := fun _ => fun
  | [d] => { results := [.lit (.bool true)], args := [d] }
  | _ => none }
def fnExactRulesBytesRow : OpenClaim := { program := "ytkdaijcdddomjaa", sum := "5a02b27489dc92a4c0bc839ad49b598a0fa600c277a68ab9dab10da202e5d8e1", func := "loop.example/g00683/laws.FnExactRulesBytes", spec := "fnExactRulesBytes", unfollowed := true, recurses := true, apart := false }
def FnExactRulesBytesSaid : Prop := fnExactRulesBytesRow.holds Try.pinned (OpenSpec.ofChange fnExactRulesBytesSpec)

/-- ITS FALSE NEIGHBOUR: 'it returns false'. Refute it at one input. -/
def fnExactRulesBytesWrong : ChangeSpec := { name := "fnExactRulesBytes", fn := fun _ => fun
  | [d] => { results := [.lit (.bool false)], args := [d] }
  | _ => none }
def FnExactRulesBytesWrongFalsely : Prop := fnExactRulesBytesRow.holds Try.pinned (OpenSpec.ofChange fnExactRulesBytesWrong)

/-- 'laws.FnExactInboxRead': WHATEVER THE INPUT: true; the input reads as it did. -/
def fnExactInboxReadSpec : ChangeSpec := { name := "fnExactInboxRead", fn := fun _ => fun
  | [d1, d2] => { results := [.lit (.bool true)], args := [d1, d2] }
  | _ => none }
def fnExactInboxReadRow : OpenClaim := { program := "ytkdaijcdddomjaa", sum := "5a02b27489dc92a4c0bc839ad49b598a0fa600c277a68ab9dab10da202e5d8e1", func := "loop.example/g00683/laws.FnExactInboxRead", spec := "fnExactInboxRead", apart := false }
def FnExactInboxReadSaid : Prop := fnExactInboxReadRow.holds Try.pinned (OpenSpec.ofChange fnExactInboxReadSpec)

/-- ITS FALSE NEIGHBOUR: 'it returns false'. Refute it at one input. -/
def fnExactInboxReadWrong : ChangeSpec := { name := "fnExactInboxRead", fn := fun _ => fun
  | [d1, d2] => { results := [.lit (.bool false)], args := [d1, d2] }
  | _ => none }
def FnExactInboxReadWrongFalsely : Prop := fnExactInboxReadRow.holds Try.pinned (OpenSpec.ofChange fnExactInboxReadWrong)

/-- 'laws.FnExactInboxPut': WHATEVER THE INPUT: true; the input reads as it did. -/
def fnExactInboxPutSpec : ChangeSpec := { name := "fnExactInboxPut", fn := fun _ => fun
  | [d1, d2, d3] => { results := [.lit (.bool true)], args := [d1, d2, d3] }
  | _ => none }
def fnExactInboxPutRow : OpenClaim := { program := "ytkdaijcdddomjaa", sum := "5a02b27489dc92a4c0bc839ad49b598a0fa600c277a68ab9dab10da202e5d8e1", func := "loop.example/g00683/laws.FnExactInboxPut", spec := "fnExactInboxPut", apart := false }
def FnExactInboxPutSaid : Prop := fnExactInboxPutRow.holds Try.pinned (OpenSpec.ofChange fnExactInboxPutSpec)

/-- ITS FALSE NEIGHBOUR: 'it returns false'. Refute it at one input. -/
def fnExactInboxPutWrong : ChangeSpec := { name := "fnExactInboxPut", fn := fun _ => fun
  | [d1, d2, d3] => { results := [.lit (.bool false)], args := [d1, d2, d3] }
  | _ => none }
def FnExactInboxPutWrongFalsely : Prop := fnExactInboxPutRow.holds Try.pinned (OpenSpec.ofChange fnExactInboxPutWrong)

/-- 'laws.FnExactInboxMove': WHATEVER THE INPUT: true; the input reads as it did. -/
def fnExactInboxMoveSpec : ChangeSpec := { name := "fnExactInboxMove", fn := fun _ => fun
  | [d1, d2] => { results := [.lit (.bool true)], args := [d1, d2] }
  | _ => none }
def fnExactInboxMoveRow : OpenClaim := { program := "ytkdaijcdddomjaa", sum := "5a02b27489dc92a4c0bc839ad49b598a0fa600c277a68ab9dab10da202e5d8e1", func := "loop.example/g00683/laws.FnExactInboxMove", spec := "fnExactInboxMove", apart := false }
def FnExactInboxMoveSaid : Prop := fnExactInboxMoveRow.holds Try.pinned (OpenSpec.ofChange fnExactInboxMoveSpec)

/-- ITS FALSE NEIGHBOUR: 'it returns false'. Refute it at one input. -/
def fnExactInboxMoveWrong : ChangeSpec := { name := "fnExactInboxMove", fn := fun _ => fun
  | [d1, d2] => { results := [.lit (.bool false)], args := [d1, d2] }
  | _ => none }
def FnExactInboxMoveWrongFalsely : Prop := fnExactInboxMoveRow.holds Try.pinned (OpenSpec.ofChange fnExactInboxMoveWrong)

/-- 'laws.FnExactInboxAck': WHATEVER THE INPUT: true; the input reads as it did. -/
def fnExactInboxAckSpec : ChangeSpec := { name := "fnExactInboxAck", fn := fun _ => fun
  | [d1, d2] => { results := [.lit (.bool true)], args := [d1, d2] }
  | _ => none }
def fnExactInboxAckRow : OpenClaim := { program := "ytkdaijcdddomjaa", sum := "5a02b27489dc92a4c0bc839ad49b598a0fa600c277a68ab9dab10da202e5d8e1", func := "loop.example/g00683/laws.FnExactInboxAck", spec := "fnExactInboxAck", unfollowed := true, recurses := true, apart := false }
def FnExactInboxAckSaid : Prop := fnExactInboxAckRow.holds Try.pinned (OpenSpec.ofChange fnExactInboxAckSpec)

/-- ITS FALSE NEIGHBOUR: 'it returns false'. Refute it at one input. -/
def fnExactInboxAckWrong : ChangeSpec := { name := "fnExactInboxAck", fn := fun _ => fun
  | [d1, d2] => { results := [.lit (.bool false)], args := [d1, d2] }
  | _ => none }
def FnExactInboxAckWrongFalsely : Prop := fnExactInboxAckRow.holds Try.pinned (OpenSpec.ofChange fnExactInboxAckWrong)

/-- 'laws.FnInbox': WHATEVER THE INPUT: true; the input reads as it did. -/
def fnInboxSpec : ChangeSpec := { name := "fnInbox", fn := fun _ => fun
  | [d1, d2] => { results := [.lit (.bool true)], args := [d1, d2] }
  | _ => none }
def fnInboxRow : OpenClaim := { program := "ytkdaijcdddomjaa", sum := "5a02b27489dc92a4c0bc839ad49b598a0fa600c277a68ab9dab10da202e5d8e1", func := "loop.example/g00683/laws.FnInbox", spec := "fnInbox", unfollowed := true, recurses := true, apart := false }
def FnInboxSaid : Prop := fnInboxRow.holds Try.pinned (OpenSpec.ofChange fnInboxSpec)

/-- ITS FALSE NEIGHBOUR: 'it returns false'. Refute it at one input. -/
def fnInboxWrong : ChangeSpec := { name := "fnInbox", fn := fun _ => fun
  | [d1, d2] => { results := [.lit (.bool false)], args := [d1, d2] }
  | _ => none }
def FnInboxWrongFalsely : Prop := fnInboxRow.holds Try.pinned (OpenSpec.ofChange fnInboxWrong)

/-- 'laws.FnExactRulesRead': WHATEVER THE INPUT: true; the input reads as it did. -/
def fnExactRulesReadSpec : ChangeSpec := { name := "fnExactRulesRead", fn := fun _ => fun
  | [d] => { results := [.lit (.bool true)], args := [d] }
  | _ => none }
def fnExactRulesReadRow : OpenClaim := { program := "ytkdaijcdddomjaa", sum := "5a02b27489dc92a4c0bc839ad49b598a0fa600c277a68ab9dab10da202e5d8e1", func := "loop.example/g00683/laws.FnExactRulesRead", spec := "fnExactRulesRead", unfollowed := true, recurses := true, apart := false }
def FnExactRulesReadSaid : Prop := fnExactRulesReadRow.holds Try.pinned (OpenSpec.ofChange fnExactRulesReadSpec)

/-- ITS FALSE NEIGHBOUR: 'it returns false'. Refute it at one input. -/
def fnExactRulesReadWrong : ChangeSpec := { name := "fnExactRulesRead", fn := fun _ => fun
  | [d] => { results := [.lit (.bool false)], args := [d] }
  | _ => none }
def FnExactRulesReadWrongFalsely : Prop := fnExactRulesReadRow.holds Try.pinned (OpenSpec.ofChange fnExactRulesReadWrong)

/-- 'laws.FnExactStatePut': WHATEVER THE INPUT: true; the input reads as it did. -/
def fnExactStatePutSpec : ChangeSpec := { name := "fnExactStatePut", fn := fun _ => fun
  | [d1, d2] => { results := [.lit (.bool true)], args := [d1, d2] }
  | _ => none }
def fnExactStatePutRow : OpenClaim := { program := "ytkdaijcdddomjaa", sum := "5a02b27489dc92a4c0bc839ad49b598a0fa600c277a68ab9dab10da202e5d8e1", func := "loop.example/g00683/laws.FnExactStatePut", spec := "fnExactStatePut", inPlace := ["slices.overlaps[loop.example/g00683/impl.Entry]"], unfollowed := true, recurses := true, apart := false }
def FnExactStatePutSaid : Prop := fnExactStatePutRow.holds Try.pinned (OpenSpec.ofChange fnExactStatePutSpec)

/-- ITS FALSE NEIGHBOUR: 'it returns false'. Refute it at one input. -/
def fnExactStatePutWrong : ChangeSpec := { name := "fnExactStatePut", fn := fun _ => fun
  | [d1, d2] => { results := [.lit (.bool false)], args := [d1, d2] }
  | _ => none }
def FnExactStatePutWrongFalsely : Prop := fnExactStatePutRow.holds Try.pinned (OpenSpec.ofChange fnExactStatePutWrong)

/-- 'laws.FnExactStateApply': WHATEVER THE INPUT: true; the input reads as it did. -/
def fnExactStateApplySpec : ChangeSpec := { name := "fnExactStateApply", fn := fun _ => fun
  | [d1, d2] => { results := [.lit (.bool true)], args := [d1, d2] }
  | _ => none }
def fnExactStateApplyRow : OpenClaim := { program := "ytkdaijcdddomjaa", sum := "5a02b27489dc92a4c0bc839ad49b598a0fa600c277a68ab9dab10da202e5d8e1", func := "loop.example/g00683/laws.FnExactStateApply", spec := "fnExactStateApply", inPlace := ["slices.overlaps[loop.example/g00683/impl.Entry]"], unfollowed := true, recurses := true, apart := false }
def FnExactStateApplySaid : Prop := fnExactStateApplyRow.holds Try.pinned (OpenSpec.ofChange fnExactStateApplySpec)

/-- ITS FALSE NEIGHBOUR: 'it returns false'. Refute it at one input. -/
def fnExactStateApplyWrong : ChangeSpec := { name := "fnExactStateApply", fn := fun _ => fun
  | [d1, d2] => { results := [.lit (.bool false)], args := [d1, d2] }
  | _ => none }
def FnExactStateApplyWrongFalsely : Prop := fnExactStateApplyRow.holds Try.pinned (OpenSpec.ofChange fnExactStateApplyWrong)

/-- 'laws.FnExactTrim': WHATEVER THE INPUT: true; the input reads as it did. -/
def fnExactTrimSpec : ChangeSpec := { name := "fnExactTrim", fn := fun _ => fun
  | [d1, d2] => { results := [.lit (.bool true)], args := [d1, d2] }
  | _ => none }
def fnExactTrimRow : OpenClaim := { program := "ytkdaijcdddomjaa", sum := "5a02b27489dc92a4c0bc839ad49b598a0fa600c277a68ab9dab10da202e5d8e1", func := "loop.example/g00683/laws.FnExactTrim", spec := "fnExactTrim", unfollowed := true, recurses := true, apart := false }
def FnExactTrimSaid : Prop := fnExactTrimRow.holds Try.pinned (OpenSpec.ofChange fnExactTrimSpec)

/-- ITS FALSE NEIGHBOUR: 'it returns false'. Refute it at one input. -/
def fnExactTrimWrong : ChangeSpec := { name := "fnExactTrim", fn := fun _ => fun
  | [d1, d2] => { results := [.lit (.bool false)], args := [d1, d2] }
  | _ => none }
def FnExactTrimWrongFalsely : Prop := fnExactTrimRow.holds Try.pinned (OpenSpec.ofChange fnExactTrimWrong)

/- THE SECOND FORM. 'bulk': how many values and letters a reading holds, each counted each time it is reached (what is shared counts as often as it is met; a slice's spare places count too). A statement '..UptoSaid' is the law's where the arguments, and the package variables that the reading takes, are together of bulk at most 1048576: NARROWER than '..Said'. Prove '..Said' where nothing that the law and all that it calls make is longer than what came in: it says more and counts as full. Else prove '..UptoSaid'. A law counts once. -/
mutual
def uptoBulk {H : Type} : DataW H → Nat
  | .lit (.string bytes) => bytes.length + 1
  | .lit _ => 1
  | .nil => 1
  | .ptr d => uptoBulk d + 1
  | .slice elems spare => uptoBulkAll elems + uptoBulkAll spare + 1
  | .agg parts => uptoBulkAll parts + 1
  | .iface _ d => uptoBulk d + 1
  | .map entries => uptoBulkEntries entries + 1
  | .held _ => 1
def uptoBulkAll {H : Type} : List (DataW H) → Nat
  | [] => 0
  | d :: r => uptoBulk d + uptoBulkAll r
def uptoBulkEntries {H : Type} : List (Lit × DataW H) → Nat
  | [] => 0
  | x :: r => uptoBulkEntry x + uptoBulkEntries r
def uptoBulkEntry {H : Type} : Lit × DataW H → Nat
  | (.string bytes, d) => bytes.length + uptoBulk d + 1
  | (_, d) => uptoBulk d + 1
 end
def uptoSmall : (H : Type) → List (DataW H) → Bool := fun _ ds => decide (uptoBulkAll ds ≤ 1048576)
def OpenSpec.upto (s : _root_.Go.ChangeSpec) : _root_.Go.OpenSpec := { _root_.Go.OpenSpec.ofChange s with cond := some uptoSmall }

/-- 'laws.FnExactInboxRight', WHERE WHAT IT READS IS OF BULK AT MOST 1048576: true; the input reads as it did. -/
def fnExactInboxRightUptoRow : OpenClaim := { program := "ytkdaijcdddomjaa", sum := "5a02b27489dc92a4c0bc839ad49b598a0fa600c277a68ab9dab10da202e5d8e1", func := "loop.example/g00683/laws.FnExactInboxRight", spec := "fnExactInboxRight", apart := false, narrowed := true }
def FnExactInboxRightUptoSaid : Prop := fnExactInboxRightUptoRow.holds Try.pinned (OpenSpec.upto fnExactInboxRightSpec)

/-- 'laws.FnExactRulesRight', WHERE WHAT IT READS IS OF BULK AT MOST 1048576: true; the input reads as it did. -/
def fnExactRulesRightUptoRow : OpenClaim := { program := "ytkdaijcdddomjaa", sum := "5a02b27489dc92a4c0bc839ad49b598a0fa600c277a68ab9dab10da202e5d8e1", func := "loop.example/g00683/laws.FnExactRulesRight", spec := "fnExactRulesRight", unfollowed := true, recurses := true, apart := false, narrowed := true }
def FnExactRulesRightUptoSaid : Prop := fnExactRulesRightUptoRow.holds Try.pinned (OpenSpec.upto fnExactRulesRightSpec)

/-- 'laws.FnExactRulesBytes', WHERE WHAT IT READS IS OF BULK AT MOST 1048576: true; the input reads as it did. -/
def fnExactRulesBytesUptoRow : OpenClaim := { program := "ytkdaijcdddomjaa", sum := "5a02b27489dc92a4c0bc839ad49b598a0fa600c277a68ab9dab10da202e5d8e1", func := "loop.example/g00683/laws.FnExactRulesBytes", spec := "fnExactRulesBytes", unfollowed := true, recurses := true, apart := false, narrowed := true }
def FnExactRulesBytesUptoSaid : Prop := fnExactRulesBytesUptoRow.holds Try.pinned (OpenSpec.upto fnExactRulesBytesSpec)

/-- 'laws.FnExactInboxRead', WHERE WHAT IT READS IS OF BULK AT MOST 1048576: true; the input reads as it did. -/
def fnExactInboxReadUptoRow : OpenClaim := { program := "ytkdaijcdddomjaa", sum := "5a02b27489dc92a4c0bc839ad49b598a0fa600c277a68ab9dab10da202e5d8e1", func := "loop.example/g00683/laws.FnExactInboxRead", spec := "fnExactInboxRead", apart := false, narrowed := true }
def FnExactInboxReadUptoSaid : Prop := fnExactInboxReadUptoRow.holds Try.pinned (OpenSpec.upto fnExactInboxReadSpec)

/-- 'laws.FnExactInboxPut', WHERE WHAT IT READS IS OF BULK AT MOST 1048576: true; the input reads as it did. -/
def fnExactInboxPutUptoRow : OpenClaim := { program := "ytkdaijcdddomjaa", sum := "5a02b27489dc92a4c0bc839ad49b598a0fa600c277a68ab9dab10da202e5d8e1", func := "loop.example/g00683/laws.FnExactInboxPut", spec := "fnExactInboxPut", apart := false, narrowed := true }
def FnExactInboxPutUptoSaid : Prop := fnExactInboxPutUptoRow.holds Try.pinned (OpenSpec.upto fnExactInboxPutSpec)

/-- 'laws.FnExactInboxMove', WHERE WHAT IT READS IS OF BULK AT MOST 1048576: true; the input reads as it did. -/
def fnExactInboxMoveUptoRow : OpenClaim := { program := "ytkdaijcdddomjaa", sum := "5a02b27489dc92a4c0bc839ad49b598a0fa600c277a68ab9dab10da202e5d8e1", func := "loop.example/g00683/laws.FnExactInboxMove", spec := "fnExactInboxMove", apart := false, narrowed := true }
def FnExactInboxMoveUptoSaid : Prop := fnExactInboxMoveUptoRow.holds Try.pinned (OpenSpec.upto fnExactInboxMoveSpec)

/-- 'laws.FnExactInboxAck', WHERE WHAT IT READS IS OF BULK AT MOST 1048576: true; the input reads as it did. -/
def fnExactInboxAckUptoRow : OpenClaim := { program := "ytkdaijcdddomjaa", sum := "5a02b27489dc92a4c0bc839ad49b598a0fa600c277a68ab9dab10da202e5d8e1", func := "loop.example/g00683/laws.FnExactInboxAck", spec := "fnExactInboxAck", unfollowed := true, recurses := true, apart := false, narrowed := true }
def FnExactInboxAckUptoSaid : Prop := fnExactInboxAckUptoRow.holds Try.pinned (OpenSpec.upto fnExactInboxAckSpec)

/-- 'laws.FnInbox', WHERE WHAT IT READS IS OF BULK AT MOST 1048576: true; the input reads as it did. -/
def fnInboxUptoRow : OpenClaim := { program := "ytkdaijcdddomjaa", sum := "5a02b27489dc92a4c0bc839ad49b598a0fa600c277a68ab9dab10da202e5d8e1", func := "loop.example/g00683/laws.FnInbox", spec := "fnInbox", unfollowed := true, recurses := true, apart := false, narrowed := true }
def FnInboxUptoSaid : Prop := fnInboxUptoRow.holds Try.pinned (OpenSpec.upto fnInboxSpec)

/-- 'laws.FnExactRulesRead', WHERE WHAT IT READS IS OF BULK AT MOST 1048576: true; the input reads as it did. -/
def fnExactRulesReadUptoRow : OpenClaim := { program := "ytkdaijcdddomjaa", sum := "5a02b27489dc92a4c0bc839ad49b598a0fa600c277a68ab9dab10da202e5d8e1", func := "loop.example/g00683/laws.FnExactRulesRead", spec := "fnExactRulesRead", unfollowed := true, recurses := true, apart := false, narrowed := true }
def FnExactRulesReadUptoSaid : Prop := fnExactRulesReadUptoRow.holds Try.pinned (OpenSpec.upto fnExactRulesReadSpec)

/-- 'laws.FnExactStatePut', WHERE WHAT IT READS IS OF BULK AT MOST 1048576: true; the input reads as it did. -/
def fnExactStatePutUptoRow : OpenClaim := { program := "ytkdaijcdddomjaa", sum := "5a02b27489dc92a4c0bc839ad49b598a0fa600c277a68ab9dab10da202e5d8e1", func := "loop.example/g00683/laws.FnExactStatePut", spec := "fnExactStatePut", inPlace := ["slices.overlaps[loop.example/g00683/impl.Entry]"], unfollowed := true, recurses := true, apart := false, narrowed := true }
def FnExactStatePutUptoSaid : Prop := fnExactStatePutUptoRow.holds Try.pinned (OpenSpec.upto fnExactStatePutSpec)

/-- 'laws.FnExactStateApply', WHERE WHAT IT READS IS OF BULK AT MOST 1048576: true; the input reads as it did. -/
def fnExactStateApplyUptoRow : OpenClaim := { program := "ytkdaijcdddomjaa", sum := "5a02b27489dc92a4c0bc839ad49b598a0fa600c277a68ab9dab10da202e5d8e1", func := "loop.example/g00683/laws.FnExactStateApply", spec := "fnExactStateApply", inPlace := ["slices.overlaps[loop.example/g00683/impl.Entry]"], unfollowed := true, recurses := true, apart := false, narrowed := true }
def FnExactStateApplyUptoSaid : Prop := fnExactStateApplyUptoRow.holds Try.pinned (OpenSpec.upto fnExactStateApplySpec)

/-- 'laws.FnExactTrim', WHERE WHAT IT READS IS OF BULK AT MOST 1048576: true; the input reads as it did. -/
def fnExactTrimUptoRow : OpenClaim := { program := "ytkdaijcdddomjaa", sum := "5a02b27489dc92a4c0bc839ad49b598a0fa600c277a68ab9dab10da202e5d8e1", func := "loop.example/g00683/laws.FnExactTrim", spec := "fnExactTrim", unfollowed := true, recurses := true, apart := false, narrowed := true }
def FnExactTrimUptoSaid : Prop := fnExactTrimUptoRow.holds Try.pinned (OpenSpec.upto fnExactTrimSpec)

end Rows
end Go.Proofs.Ytkdaijcdddomjaa
