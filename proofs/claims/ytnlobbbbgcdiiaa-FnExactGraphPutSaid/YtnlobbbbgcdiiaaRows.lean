/-
  No cell of these rows narrows 'for every input' (looked for: loops, veiled, ifaces, maps, wideKeys, modest, calm, conditions, laid).
  DERIVED. THE GIVEN ROWS OF THIS SEAT. 6 by the template 'for every input the law returns true; each argument reads behind the call as it read before'; 0 by the template 'total and deterministic' (their statements: YtnlobbbbgcdiiaaTotals.lean).
  GIVEN WITH THE SEED: the statements are not yours to turn. If you find one false, say at which input.
  Laid BY PROGRAM, IN A SANDBOX (cutbox-rows.mjs): the forced cells as the released guide's own fill.sh prints them over the translation 00ecb47edf40f038… (all of the seat's roots in one cut). By AI agents, Wed Nov 11 2026. No macro, syntax, notation, axiom, sorry.
-/
import Derived.Test.YtnlobbbbgcdiiaaChecked
import GoSem.Claim
import GoSem.ClaimJoined
import GoSem.ClaimMapViews
import Derived.JoinedTies
import Derived.KernelRfl
namespace Go.Proofs.Ytnlobbbbgcdiiaa
/- THE CELL 'sum', in the pinned program and in every row, IS THE sha256 OF THE DUMP (.gsa) THAT YtnlobbbbgcdiiaaProg.lean LOADS. Nothing in Lean hashes anything: it is a label: what it is worth is what the hold of that sum in a sandbox is worth. -/
noncomputable def Try.pinned : Pinned := { name := "ytnlobbbbgcdiiaa", sum := "00ecb47edf40f0380ff4a50e3f0d42c35fee57104966c7c76dbf5cf22c76c2c4", checked := Try.checked }
namespace Rows
def none {H : Type} : Left H := { results := [], args := [] }

/-- 'laws.FnInbox': WHATEVER THE INPUT: true; the input reads as it did. -/
def fnInboxSpec : ChangeSpec := { name := "fnInbox", fn := fun _ => fun
  | [d1, d2] => { results := [.lit (.bool true)], args := [d1, d2] }
  | _ => none }
def fnInboxRow : OpenClaim := { program := "ytnlobbbbgcdiiaa", sum := "00ecb47edf40f0380ff4a50e3f0d42c35fee57104966c7c76dbf5cf22c76c2c4", func := "loop.example/g00683/laws.FnInbox", spec := "fnInbox", unfollowed := true, recurses := true, apart := false }
def FnInboxSaid : Prop := fnInboxRow.holds Try.pinned (OpenSpec.ofChange fnInboxSpec)

/-- ITS FALSE NEIGHBOUR: 'it returns false'. Refute it at one input. -/
def fnInboxWrong : ChangeSpec := { name := "fnInbox", fn := fun _ => fun
  | [d1, d2] => { results := [.lit (.bool false)], args := [d1, d2] }
  | _ => none }
def FnInboxWrongFalsely : Prop := fnInboxRow.holds Try.pinned (OpenSpec.ofChange fnInboxWrong)

/-- 'laws.FnExactTrim': WHATEVER THE INPUT: true; the input reads as it did. -/
def fnExactTrimSpec : ChangeSpec := { name := "fnExactTrim", fn := fun _ => fun
  | [d1, d2] => { results := [.lit (.bool true)], args := [d1, d2] }
  | _ => none }
def fnExactTrimRow : OpenClaim := { program := "ytnlobbbbgcdiiaa", sum := "00ecb47edf40f0380ff4a50e3f0d42c35fee57104966c7c76dbf5cf22c76c2c4", func := "loop.example/g00683/laws.FnExactTrim", spec := "fnExactTrim", unfollowed := true, recurses := true, apart := false }
def FnExactTrimSaid : Prop := fnExactTrimRow.holds Try.pinned (OpenSpec.ofChange fnExactTrimSpec)

/-- ITS FALSE NEIGHBOUR: 'it returns false'. Refute it at one input. -/
def fnExactTrimWrong : ChangeSpec := { name := "fnExactTrim", fn := fun _ => fun
  | [d1, d2] => { results := [.lit (.bool false)], args := [d1, d2] }
  | _ => none }
def FnExactTrimWrongFalsely : Prop := fnExactTrimRow.holds Try.pinned (OpenSpec.ofChange fnExactTrimWrong)

/-- 'laws.FnExactGraphBytes': WHATEVER THE INPUT: true; the input reads as it did. -/
def fnExactGraphBytesSpec : ChangeSpec := { name := "fnExactGraphBytes", fn := fun _ => fun
  | [d] => { results := [.lit (.bool true)], args := [d] }
  | _ => none }
def fnExactGraphBytesRow : OpenClaim := { program := "ytnlobbbbgcdiiaa", sum := "00ecb47edf40f0380ff4a50e3f0d42c35fee57104966c7c76dbf5cf22c76c2c4", func := "loop.example/g00683/laws.FnExactGraphBytes", spec := "fnExactGraphBytes", unfollowed := true, recurses := true, apart := false }
def FnExactGraphBytesSaid : Prop := fnExactGraphBytesRow.holds Try.pinned (OpenSpec.ofChange fnExactGraphBytesSpec)

/-- ITS FALSE NEIGHBOUR: 'it returns false'. Refute it at one input. -/
def fnExactGraphBytesWrong : ChangeSpec := { name := "fnExactGraphBytes", fn := fun _ => fun
  | [d] => { results := [.lit (.bool false)], args := [d] }
  | _ => none }
def FnExactGraphBytesWrongFalsely : Prop := fnExactGraphBytesRow.holds Try.pinned (OpenSpec.ofChange fnExactGraphBytesWrong)

/-- 'laws.FnExactGraphPut': WHATEVER THE INPUT: true; the input reads as it did. -/
def fnExactGraphPutSpec : ChangeSpec := { name := "fnExactGraphPut", fn := fun _ => fun
  | [d1, d2] => { results := [.lit (.bool true)], args := [d1, d2] }
  | _ => none }
def fnExactGraphPutRow : OpenClaim := { program := "ytnlobbbbgcdiiaa", sum := "00ecb47edf40f0380ff4a50e3f0d42c35fee57104966c7c76dbf5cf22c76c2c4", func := "loop.example/g00683/laws.FnExactGraphPut", spec := "fnExactGraphPut", inPlace := ["slices.overlaps[loop.example/g00683/impl.Event]"], unfollowed := true, recurses := true, apart := false }
def FnExactGraphPutSaid : Prop := fnExactGraphPutRow.holds Try.pinned (OpenSpec.ofChange fnExactGraphPutSpec)

/-- ITS FALSE NEIGHBOUR: 'it returns false'. Refute it at one input. -/
def fnExactGraphPutWrong : ChangeSpec := { name := "fnExactGraphPut", fn := fun _ => fun
  | [d1, d2] => { results := [.lit (.bool false)], args := [d1, d2] }
  | _ => none }
def FnExactGraphPutWrongFalsely : Prop := fnExactGraphPutRow.holds Try.pinned (OpenSpec.ofChange fnExactGraphPutWrong)

/-- 'laws.FnState': WHATEVER THE INPUT: true; the input reads as it did. -/
def fnStateSpec : ChangeSpec := { name := "fnState", fn := fun _ => fun
  | [d1, d2] => { results := [.lit (.bool true)], args := [d1, d2] }
  | _ => none }
def fnStateRow : OpenClaim := { program := "ytnlobbbbgcdiiaa", sum := "00ecb47edf40f0380ff4a50e3f0d42c35fee57104966c7c76dbf5cf22c76c2c4", func := "loop.example/g00683/laws.FnState", spec := "fnState", inPlace := ["slices.overlaps[loop.example/g00683/impl.Entry]"], unfollowed := true, recurses := true, apart := false }
def FnStateSaid : Prop := fnStateRow.holds Try.pinned (OpenSpec.ofChange fnStateSpec)

/-- ITS FALSE NEIGHBOUR: 'it returns false'. Refute it at one input. -/
def fnStateWrong : ChangeSpec := { name := "fnState", fn := fun _ => fun
  | [d1, d2] => { results := [.lit (.bool false)], args := [d1, d2] }
  | _ => none }
def FnStateWrongFalsely : Prop := fnStateRow.holds Try.pinned (OpenSpec.ofChange fnStateWrong)

/-- 'laws.FnExactGraphMerge': WHATEVER THE INPUT: true; the input reads as it did. -/
def fnExactGraphMergeSpec : ChangeSpec := { name := "fnExactGraphMerge", fn := fun _ => fun
  | [d1, d2] => { results := [.lit (.bool true)], args := [d1, d2] }
  | _ => none }
def fnExactGraphMergeRow : OpenClaim := { program := "ytnlobbbbgcdiiaa", sum := "00ecb47edf40f0380ff4a50e3f0d42c35fee57104966c7c76dbf5cf22c76c2c4", func := "loop.example/g00683/laws.FnExactGraphMerge", spec := "fnExactGraphMerge", inPlace := ["slices.overlaps[loop.example/g00683/impl.Event]"], unfollowed := true, recurses := true, apart := false }
def FnExactGraphMergeSaid : Prop := fnExactGraphMergeRow.holds Try.pinned (OpenSpec.ofChange fnExactGraphMergeSpec)

/-- ITS FALSE NEIGHBOUR: 'it returns false'. Refute it at one input. -/
def fnExactGraphMergeWrong : ChangeSpec := { name := "fnExactGraphMerge", fn := fun _ => fun
  | [d1, d2] => { results := [.lit (.bool false)], args := [d1, d2] }
  | _ => none }
def FnExactGraphMergeWrongFalsely : Prop := fnExactGraphMergeRow.holds Try.pinned (OpenSpec.ofChange fnExactGraphMergeWrong)

/- THE SECOND FORM. 'bulk': how many values and letters a reading holds, each counted each time it is reached (what is shared counts as often as it is met; a slice's spare places count too). A statement '..UptoSaid' is the law's where the arguments, and the package variables that the reading takes, are together of bulk at most 1048576: NARROWER than '..Said'. Prove '..Said' where nothing that the law and all that it calls make is longer than what came in: it says more and counts as full. Else prove '..UptoSaid'. A law counts once. -/
mutual
def uptoBulk {H : Type} : DataW H → Nat
  | .lit (.string bytes) => bytes.length + 1
  | .lit _ => 1
  | .nil => 1
  | .ptr d => uptoBulk d + 1
  | .slice elems spare => uptoBulkAll elems + uptoBulkAll spare + 1
  | .agg parts => uptoBulkAll parts + 1
  | .iface _ d => uptoBulk d + 1
  | .map entries => uptoBulkEntries entries + 1
  | .held _ => 1
def uptoBulkAll {H : Type} : List (DataW H) → Nat
  | [] => 0
  | d :: r => uptoBulk d + uptoBulkAll r
def uptoBulkEntries {H : Type} : List (Lit × DataW H) → Nat
  | [] => 0
  | x :: r => uptoBulkEntry x + uptoBulkEntries r
def uptoBulkEntry {H : Type} : Lit × DataW H → Nat
  | (.string bytes, d) => bytes.length + uptoBulk d + 1
  | (_, d) => uptoBulk d + 1
 end
def uptoSmall : (H : Type) → List (DataW H) → Bool := fun _ ds => decide (uptoBulkAll ds ≤ 1048576)
def OpenSpec.upto (s : _root_.Go.ChangeSpec) : _root_.Go.OpenSpec := { _root_.Go.OpenSpec.ofChange s with cond := some uptoSmall }

/-- 'laws.FnInbox', WHERE WHAT IT READS IS OF BULK AT MOST 1048576: true; the input reads as it did. -/
def fnInboxUptoRow : OpenClaim := { program := "ytnlobbbbgcdiiaa", sum := "00ecb47edf40f0380ff4a50e3f0d42c35fee57104966c7c76dbf5cf22c76c2c4", func := "loop.example/g00683/laws.FnInbox", spec := "fnInbox", unfollowed := true, recurses := true, apart := false, narrowed := true }
def FnInboxUptoSaid : Prop := fnInboxUptoRow.holds Try.pinned (OpenSpec.upto fnInboxSpec)

/-- 'laws.FnExactTrim', WHERE WHAT IT READS IS OF BULK AT MOST 1048576: true; the input reads as it did. -/
def fnExactTrimUptoRow : OpenClaim := { program := "ytnlobbbbgcdiiaa", sum := "00ecb47edf40f0380ff4a50e3f0d42c35fee57104966c7c76dbf5cf22c76c2c4", func := "loop.example/g00683/laws.FnExactTrim", spec := "fnExactTrim", unfollowed := true, recurses := true, apart := false, narrowed := true }
def FnExactTrimUptoSaid : Prop := fnExactTrimUptoRow.holds Try.pinned (OpenSpec.upto fnExactTrimSpec)

/-- 'laws.FnExactGraphBytes', WHERE WHAT IT READS IS OF BULK AT MOST 1048576: true; the input reads as it did. -/
def fnExactGraphBytesUptoRow : OpenClaim := { program := "ytnlobbbbgcdiiaa", sum := "00ecb47edf40f0380ff4a50e3f0d42c35fee57104966c7c76dbf5cf22c76c2c4", func := "loop.example/g00683/laws.FnExactGraphBytes", spec := "fnExactGraphBytes", unfollowed := true, recurses := true, apart := false, narrowed := true }
def FnExactGraphBytesUptoSaid : Prop := fnExactGraphBytesUptoRow.holds Try.pinned (OpenSpec.upto fnExactGraphBytesSpec)

/-- 'laws.FnExactGraphPut', WHERE WHAT IT READS IS OF BULK AT MOST 1048576: true; the input reads as it did. -/
def fnExactGraphPutUptoRow : OpenClaim := { program := "ytnlobbbbgcdiiaa", sum := "00ecb47edf40f0380ff4a50e3f0d42c35fee57104966c7c76dbf5cf22c76c2c4", func := "loop.example/g00683/laws.FnExactGraphPut", spec := "fnExactGraphPut", inPlace := ["slices.overlaps[loop.example/g00683/impl.Event]"], unfollowed := true, recurses := true, apart := false, narrowed := true }
def FnExactGraphPutUptoSaid : Prop := fnExactGraphPutUptoRow.holds Try.pinned (OpenSpec.upto fnExactGraphPutSpec)

/-- 'laws.FnState', WHERE WHAT IT READS IS OF BULK AT MOST 1048576: true; the input reads as it did. -/
def fnStateUptoRow : OpenClaim := { program := "ytnlobbbbgcdiiaa", sum := "00ecb47edf40f0380ff4a50e3f0d42c35fee57104966c7c76dbf5cf22c76c2c4", func := "loop.example/g00683/laws.FnState", spec := "fnState", inPlace := ["slices.overlaps[loop.example/g00683/impl.Entry]"], unfollowed := true, recurses := true, apart := false, narrowed := true }
def FnStateUptoSaid : Prop := fnStateUptoRow.holds Try.pinned (OpenSpec.upto fnStateSpec)

/-- 'laws.FnExactGraphMerge', WHERE WHAT IT READS IS OF BULK AT MOST 1048576: true; the input reads as it did. -/
def fnExactGraphMergeUptoRow : OpenClaim := { program := "ytnlobbbbgcdiiaa", sum := "00ecb47edf40f0380ff4a50e3f0d42c35fee57104966c7c76dbf5cf22c76c2c4", func := "loop.example/g00683/laws.FnExactGraphMerge", spec := "fnExactGraphMerge", inPlace := ["slices.overlaps[loop.example/g00683/impl.Event]"], unfollowed := true, recurses := true, apart := false, narrowed := true }
def FnExactGraphMergeUptoSaid : Prop := fnExactGraphMergeUptoRow.holds Try.pinned (OpenSpec.upto fnExactGraphMergeSpec)

end Rows
end Go.Proofs.Ytnlobbbbgcdiiaa
