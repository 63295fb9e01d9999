/-
  No cell of these rows narrows 'for every input' (looked for: loops, veiled, ifaces, maps, wideKeys, modest, calm, conditions, laid).
  DERIVED. THE GIVEN ROWS OF THIS SEAT. 6 by the template 'for every input the law returns true; each argument reads behind the call as it read before'; 0 by the template 'total and deterministic' (their statements: YtdldgbkdcpdbeaaGreatTotals.lean).
  GIVEN WITH THE SEED: the statements are not yours to turn. If you find one false, say at which input.
  Laid BY PROGRAM, IN A SANDBOX (cutbox-rows.mjs): the forced cells as the released guide's own fill.sh prints them over the translation 4bcee71a7589d7b5… (all of the seat's roots in one cut). By AI agents, Wed Nov 11 2026. No macro, syntax, notation, axiom, sorry.
-/
import Derived.Test.YtdldgbkdcpdbeaaGreatChecked
import GoSem.Claim
import GoSem.ClaimJoined
import GoSem.ClaimMapViews
import Derived.JoinedTies
import Derived.KernelRfl
namespace Go.Proofs.YtdldgbkdcpdbeaaGreat
/- THE CELL 'sum', in the pinned program and in every row, IS THE sha256 OF THE DUMP (.gsa) THAT YtdldgbkdcpdbeaaGreatProg.lean LOADS. Nothing in Lean hashes anything: it is a label: what it is worth is what the hold of that sum in a sandbox is worth. -/
noncomputable def Tryz.pinned : Pinned := { name := "ytdldgbkdcpdbeaagreat", sum := "4bcee71a7589d7b5d509a3db6fb02c315aa4bb9783ee2326c6e3446c54fec555", checked := Tryz.checked }
namespace Rows
def none {H : Type} : Left H := { results := [], args := [] }

/-- 'laws.FnExactRefused': WHATEVER THE INPUT: true; the input reads as it did. -/
def fnExactRefusedSpec : ChangeSpec := { name := "fnExactRefused", fn := fun _ => fun
  | [d1, d2] => { results := [.lit (.bool true)], args := [d1, d2] }
  | _ => none }
def fnExactRefusedRow : OpenClaim := { program := "ytdldgbkdcpdbeaagreat", sum := "4bcee71a7589d7b5d509a3db6fb02c315aa4bb9783ee2326c6e3446c54fec555", func := "loop.example/g00683/laws.FnExactRefused", spec := "fnExactRefused", inPlace := ["slices.overlaps[loop.example/g00683/impl.Entry]"], unfollowed := true, recurses := true, apart := false }
def FnExactRefusedSaid : Prop := fnExactRefusedRow.holds Tryz.pinned (OpenSpec.ofChange fnExactRefusedSpec)

/-- ITS FALSE NEIGHBOUR: 'it returns false'. Refute it at one input. -/
def fnExactRefusedWrong : ChangeSpec := { name := "fnExactRefused", fn := fun _ => fun
  | [d1, d2] => { results := [.lit (.bool false)], args := [d1, d2] }
  | _ => none }
def FnExactRefusedWrongFalsely : Prop := fnExactRefusedRow.holds Tryz.pinned (OpenSpec.ofChange fnExactRefusedWrong)

/-- 'laws.FnExactStateAhead': WHATEVER THE INPUT: true; the input reads as it did. -/
def fnExactStateAheadSpec : ChangeSpec := { name := "fnExactStateAhead", fn := fun _ => fun
  | [d1, d2] => { results := [.lit (.bool true)], args := [d1, d2] }
  | _ => none }
def fnExactStateAheadRow : OpenClaim := { program := "ytdldgbkdcpdbeaagreat", sum := "4bcee71a7589d7b5d509a3db6fb02c315aa4bb9783ee2326c6e3446c54fec555", func := "loop.example/g00683/laws.FnExactStateAhead", spec := "fnExactStateAhead", inPlace := ["slices.overlaps[loop.example/g00683/impl.Entry]"], unfollowed := true, recurses := true, apart := false }
def FnExactStateAheadSaid : Prop := fnExactStateAheadRow.holds Tryz.pinned (OpenSpec.ofChange fnExactStateAheadSpec)

/-- ITS FALSE NEIGHBOUR: 'it returns false'. Refute it at one input. -/
def fnExactStateAheadWrong : ChangeSpec := { name := "fnExactStateAhead", fn := fun _ => fun
  | [d1, d2] => { results := [.lit (.bool false)], args := [d1, d2] }
  | _ => none }
def FnExactStateAheadWrongFalsely : Prop := fnExactStateAheadRow.holds Tryz.pinned (OpenSpec.ofChange fnExactStateAheadWrong)

/-- 'laws.FnExactStateBehind': WHATEVER THE INPUT: true; the input reads as it did. -/
def fnExactStateBehindSpec : ChangeSpec := { name := "fnExactStateBehind", fn := fun _ => fun
  | [d1, d2] => { results := [.lit (.bool true)], args := [d1, d2] }
  | _ => none }
def fnExactStateBehindRow : OpenClaim := { program := "ytdldgbkdcpdbeaagreat", sum := "4bcee71a7589d7b5d509a3db6fb02c315aa4bb9783ee2326c6e3446c54fec555", func := "loop.example/g00683/laws.FnExactStateBehind", spec := "fnExactStateBehind", inPlace := ["slices.overlaps[loop.example/g00683/impl.Entry]"], unfollowed := true, recurses := true, apart := false }
def FnExactStateBehindSaid : Prop := fnExactStateBehindRow.holds Tryz.pinned (OpenSpec.ofChange fnExactStateBehindSpec)

/-- ITS FALSE NEIGHBOUR: 'it returns false'. Refute it at one input. -/
def fnExactStateBehindWrong : ChangeSpec := { name := "fnExactStateBehind", fn := fun _ => fun
  | [d1, d2] => { results := [.lit (.bool false)], args := [d1, d2] }
  | _ => none }
def FnExactStateBehindWrongFalsely : Prop := fnExactStateBehindRow.holds Tryz.pinned (OpenSpec.ofChange fnExactStateBehindWrong)

/-- 'laws.FnExactResolve': WHATEVER THE INPUT: true; the input reads as it did. -/
def fnExactResolveSpec : ChangeSpec := { name := "fnExactResolve", fn := fun _ => fun
  | [d1, d2] => { results := [.lit (.bool true)], args := [d1, d2] }
  | _ => none }
def fnExactResolveRow : OpenClaim := { program := "ytdldgbkdcpdbeaagreat", sum := "4bcee71a7589d7b5d509a3db6fb02c315aa4bb9783ee2326c6e3446c54fec555", func := "loop.example/g00683/laws.FnExactResolve", spec := "fnExactResolve", inPlace := ["slices.overlaps[loop.example/g00683/impl.Entry]"], unfollowed := true, recurses := true, apart := false }
def FnExactResolveSaid : Prop := fnExactResolveRow.holds Tryz.pinned (OpenSpec.ofChange fnExactResolveSpec)

/-- ITS FALSE NEIGHBOUR: 'it returns false'. Refute it at one input. -/
def fnExactResolveWrong : ChangeSpec := { name := "fnExactResolve", fn := fun _ => fun
  | [d1, d2] => { results := [.lit (.bool false)], args := [d1, d2] }
  | _ => none }
def FnExactResolveWrongFalsely : Prop := fnExactResolveRow.holds Tryz.pinned (OpenSpec.ofChange fnExactResolveWrong)

/-- 'laws.FnExactEndsOf': WHATEVER THE INPUT: true; the input reads as it did. -/
def fnExactEndsOfSpec : ChangeSpec := { name := "fnExactEndsOf", fn := fun _ => fun
  | [d] => { results := [.lit (.bool true)], args := [d] }
  | _ => none }
def fnExactEndsOfRow : OpenClaim := { program := "ytdldgbkdcpdbeaagreat", sum := "4bcee71a7589d7b5d509a3db6fb02c315aa4bb9783ee2326c6e3446c54fec555", func := "loop.example/g00683/laws.FnExactEndsOf", spec := "fnExactEndsOf", inPlace := ["slices.overlaps[loop.example/g00683/impl.Entry]"], unfollowed := true, recurses := true, apart := false }
def FnExactEndsOfSaid : Prop := fnExactEndsOfRow.holds Tryz.pinned (OpenSpec.ofChange fnExactEndsOfSpec)

/-- ITS FALSE NEIGHBOUR: 'it returns false'. Refute it at one input. -/
def fnExactEndsOfWrong : ChangeSpec := { name := "fnExactEndsOf", fn := fun _ => fun
  | [d] => { results := [.lit (.bool false)], args := [d] }
  | _ => none }
def FnExactEndsOfWrongFalsely : Prop := fnExactEndsOfRow.holds Tryz.pinned (OpenSpec.ofChange fnExactEndsOfWrong)

/-- 'laws.FnExactCurrentOf': WHATEVER THE INPUT: true; the input reads as it did. -/
def fnExactCurrentOfSpec : ChangeSpec := { name := "fnExactCurrentOf", fn := fun _ => fun
  | [d] => { results := [.lit (.bool true)], args := [d] }
  | _ => none }
def fnExactCurrentOfRow : OpenClaim := { program := "ytdldgbkdcpdbeaagreat", sum := "4bcee71a7589d7b5d509a3db6fb02c315aa4bb9783ee2326c6e3446c54fec555", func := "loop.example/g00683/laws.FnExactCurrentOf", spec := "fnExactCurrentOf", inPlace := ["slices.overlaps[loop.example/g00683/impl.Entry]"], unfollowed := true, recurses := true, apart := false }
def FnExactCurrentOfSaid : Prop := fnExactCurrentOfRow.holds Tryz.pinned (OpenSpec.ofChange fnExactCurrentOfSpec)

/-- ITS FALSE NEIGHBOUR: 'it returns false'. Refute it at one input. -/
def fnExactCurrentOfWrong : ChangeSpec := { name := "fnExactCurrentOf", fn := fun _ => fun
  | [d] => { results := [.lit (.bool false)], args := [d] }
  | _ => none }
def FnExactCurrentOfWrongFalsely : Prop := fnExactCurrentOfRow.holds Tryz.pinned (OpenSpec.ofChange fnExactCurrentOfWrong)

/- THE SECOND FORM. 'bulk': how many values and letters a reading holds, each counted each time it is reached (what is shared counts as often as it is met; a slice's spare places count too). A statement '..UptoSaid' is the law's where the arguments, and the package variables that the reading takes, are together of bulk at most 1048576: NARROWER than '..Said'. Prove '..Said' where nothing that the law and all that it calls make is longer than what came in: it says more and counts as full. Else prove '..UptoSaid'. A law counts once. -/
mutual
def uptoBulk {H : Type} : DataW H → Nat
  | .lit (.string bytes) => bytes.length + 1
  | .lit _ => 1
  | .nil => 1
  | .ptr d => uptoBulk d + 1
  | .slice elems spare => uptoBulkAll elems + uptoBulkAll spare + 1
  | .agg parts => uptoBulkAll parts + 1
  | .iface _ d => uptoBulk d + 1
  | .map entries => uptoBulkEntries entries + 1
  | .held _ => 1
def uptoBulkAll {H : Type} : List (DataW H) → Nat
  | [] => 0
  | d :: r => uptoBulk d + uptoBulkAll r
def uptoBulkEntries {H : Type} : List (Lit × DataW H) → Nat
  | [] => 0
  | x :: r => uptoBulkEntry x + uptoBulkEntries r
def uptoBulkEntry {H : Type} : Lit × DataW H → Nat
  | (.string bytes, d) => bytes.length + uptoBulk d + 1
  | (_, d) => uptoBulk d + 1
 end
def uptoSmall : (H : Type) → List (DataW H) → Bool := fun _ ds => decide (uptoBulkAll ds ≤ 1048576)
def OpenSpec.upto (s : _root_.Go.ChangeSpec) : _root_.Go.OpenSpec := { _root_.Go.OpenSpec.ofChange s with cond := some uptoSmall }

/-- 'laws.FnExactRefused', WHERE WHAT IT READS IS OF BULK AT MOST 1048576: true; the input reads as it did. -/
def fnExactRefusedUptoRow : OpenClaim := { program := "ytdldgbkdcpdbeaagreat", sum := "4bcee71a7589d7b5d509a3db6fb02c315aa4bb9783ee2326c6e3446c54fec555", func := "loop.example/g00683/laws.FnExactRefused", spec := "fnExactRefused", inPlace := ["slices.overlaps[loop.example/g00683/impl.Entry]"], unfollowed := true, recurses := true, apart := false, narrowed := true }
def FnExactRefusedUptoSaid : Prop := fnExactRefusedUptoRow.holds Tryz.pinned (OpenSpec.upto fnExactRefusedSpec)

/-- 'laws.FnExactStateAhead', WHERE WHAT IT READS IS OF BULK AT MOST 1048576: true; the input reads as it did. -/
def fnExactStateAheadUptoRow : OpenClaim := { program := "ytdldgbkdcpdbeaagreat", sum := "4bcee71a7589d7b5d509a3db6fb02c315aa4bb9783ee2326c6e3446c54fec555", func := "loop.example/g00683/laws.FnExactStateAhead", spec := "fnExactStateAhead", inPlace := ["slices.overlaps[loop.example/g00683/impl.Entry]"], unfollowed := true, recurses := true, apart := false, narrowed := true }
def FnExactStateAheadUptoSaid : Prop := fnExactStateAheadUptoRow.holds Tryz.pinned (OpenSpec.upto fnExactStateAheadSpec)

/-- 'laws.FnExactStateBehind', WHERE WHAT IT READS IS OF BULK AT MOST 1048576: true; the input reads as it did. -/
def fnExactStateBehindUptoRow : OpenClaim := { program := "ytdldgbkdcpdbeaagreat", sum := "4bcee71a7589d7b5d509a3db6fb02c315aa4bb9783ee2326c6e3446c54fec555", func := "loop.example/g00683/laws.FnExactStateBehind", spec := "fnExactStateBehind", inPlace := ["slices.overlaps[loop.example/g00683/impl.Entry]"], unfollowed := true, recurses := true, apart := false, narrowed := true }
def FnExactStateBehindUptoSaid : Prop := fnExactStateBehindUptoRow.holds Tryz.pinned (OpenSpec.upto fnExactStateBehindSpec)

/-- 'laws.FnExactResolve', WHERE WHAT IT READS IS OF BULK AT MOST 1048576: true; the input reads as it did. -/
def fnExactResolveUptoRow : OpenClaim := { program := "ytdldgbkdcpdbeaagreat", sum := "4bcee71a7589d7b5d509a3db6fb02c315aa4bb9783ee2326c6e3446c54fec555", func := "loop.example/g00683/laws.FnExactResolve", spec := "fnExactResolve", inPlace := ["slices.overlaps[loop.example/g00683/impl.Entry]"], unfollowed := true, recurses := true, apart := false, narrowed := true }
def FnExactResolveUptoSaid : Prop := fnExactResolveUptoRow.holds Tryz.pinned (OpenSpec.upto fnExactResolveSpec)

/-- 'laws.FnExactEndsOf', WHERE WHAT IT READS IS OF BULK AT MOST 1048576: true; the input reads as it did. -/
def fnExactEndsOfUptoRow : OpenClaim := { program := "ytdldgbkdcpdbeaagreat", sum := "4bcee71a7589d7b5d509a3db6fb02c315aa4bb9783ee2326c6e3446c54fec555", func := "loop.example/g00683/laws.FnExactEndsOf", spec := "fnExactEndsOf", inPlace := ["slices.overlaps[loop.example/g00683/impl.Entry]"], unfollowed := true, recurses := true, apart := false, narrowed := true }
def FnExactEndsOfUptoSaid : Prop := fnExactEndsOfUptoRow.holds Tryz.pinned (OpenSpec.upto fnExactEndsOfSpec)

/-- 'laws.FnExactCurrentOf', WHERE WHAT IT READS IS OF BULK AT MOST 1048576: true; the input reads as it did. -/
def fnExactCurrentOfUptoRow : OpenClaim := { program := "ytdldgbkdcpdbeaagreat", sum := "4bcee71a7589d7b5d509a3db6fb02c315aa4bb9783ee2326c6e3446c54fec555", func := "loop.example/g00683/laws.FnExactCurrentOf", spec := "fnExactCurrentOf", inPlace := ["slices.overlaps[loop.example/g00683/impl.Entry]"], unfollowed := true, recurses := true, apart := false, narrowed := true }
def FnExactCurrentOfUptoSaid : Prop := fnExactCurrentOfUptoRow.holds Tryz.pinned (OpenSpec.upto fnExactCurrentOfSpec)

end Rows
end Go.Proofs.YtdldgbkdcpdbeaaGreat
