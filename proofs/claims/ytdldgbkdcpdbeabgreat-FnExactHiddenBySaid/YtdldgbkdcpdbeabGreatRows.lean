/-
  No cell of these rows narrows 'for every input' (looked for: loops, veiled, ifaces, maps, wideKeys, modest, calm, conditions, laid).
  DERIVED. THE GIVEN ROWS OF THIS SEAT. 6 by the template 'for every input the law returns true; each argument reads behind the call as it read before'; 0 by the template 'total and deterministic' (their statements: YtdldgbkdcpdbeabGreatTotals.lean).
  GIVEN WITH THE SEED: the statements are not yours to turn. If you find one false, say at which input.
  Laid BY PROGRAM, IN A SANDBOX (cutbox-rows.mjs): the forced cells as the released guide's own fill.sh prints them over the translation e073cc01d7ebd0e8… (all of the seat's roots in one cut). By AI agents, Wed Nov 11 2026. No macro, syntax, notation, axiom, sorry.
-/
import Derived.Test.YtdldgbkdcpdbeabGreatChecked
import GoSem.Claim
import GoSem.ClaimJoined
import GoSem.ClaimMapViews
import Derived.JoinedTies
import Derived.KernelRfl
namespace Go.Proofs.YtdldgbkdcpdbeabGreat
/- THE CELL 'sum', in the pinned program and in every row, IS THE sha256 OF THE DUMP (.gsa) THAT YtdldgbkdcpdbeabGreatProg.lean LOADS. Nothing in Lean hashes anything: it is a label: what it is worth is what the hold of that sum in a sandbox is worth. -/
noncomputable def Tryz.pinned : Pinned := { name := "ytdldgbkdcpdbeabgreat", sum := "e073cc01d7ebd0e81e674450caa99047758f80a44748dc0d8b613277a65f8694", checked := Tryz.checked }
namespace Rows
def none {H : Type} : Left H := { results := [], args := [] }

/-- 'laws.FnExactHubRight': WHATEVER THE INPUT: true; the input reads as it did. -/
def fnExactHubRightSpec : ChangeSpec := { name := "fnExactHubRight", fn := fun _ => fun
  | [d] => { results := [.lit (.bool true)], args := [d] }
  | _ => none }
def fnExactHubRightRow : OpenClaim := { program := "ytdldgbkdcpdbeabgreat", sum := "e073cc01d7ebd0e81e674450caa99047758f80a44748dc0d8b613277a65f8694", func := "loop.example/g00683/laws.FnExactHubRight", spec := "fnExactHubRight", inPlace := ["slices.overlaps[loop.example/g00683/impl.Entry]"], unfollowed := true, recurses := true, plainKeys := false, apart := false }
def FnExactHubRightSaid : Prop := fnExactHubRightRow.holds Tryz.pinned (OpenSpec.ofChange fnExactHubRightSpec)

/-- ITS FALSE NEIGHBOUR: 'it returns false'. Refute it at one input. -/
def fnExactHubRightWrong : ChangeSpec := { name := "fnExactHubRight", fn := fun _ => fun
  | [d] => { results := [.lit (.bool false)], args := [d] }
  | _ => none }
def FnExactHubRightWrongFalsely : Prop := fnExactHubRightRow.holds Tryz.pinned (OpenSpec.ofChange fnExactHubRightWrong)

/-- 'laws.FnExactPosOf': WHATEVER THE INPUT: true; the input reads as it did. -/
def fnExactPosOfSpec : ChangeSpec := { name := "fnExactPosOf", fn := fun _ => fun
  | [d1, d2, d3] => { results := [.lit (.bool true)], args := [d1, d2, d3] }
  | _ => none }
def fnExactPosOfRow : OpenClaim := { program := "ytdldgbkdcpdbeabgreat", sum := "e073cc01d7ebd0e81e674450caa99047758f80a44748dc0d8b613277a65f8694", func := "loop.example/g00683/laws.FnExactPosOf", spec := "fnExactPosOf", inPlace := ["slices.overlaps[loop.example/g00683/impl.Entry]"], unfollowed := true, recurses := true, plainKeys := false, apart := false }
def FnExactPosOfSaid : Prop := fnExactPosOfRow.holds Tryz.pinned (OpenSpec.ofChange fnExactPosOfSpec)

/-- ITS FALSE NEIGHBOUR: 'it returns false'. Refute it at one input. -/
def fnExactPosOfWrong : ChangeSpec := { name := "fnExactPosOf", fn := fun _ => fun
  | [d1, d2, d3] => { results := [.lit (.bool false)], args := [d1, d2, d3] }
  | _ => none }
def FnExactPosOfWrongFalsely : Prop := fnExactPosOfRow.holds Tryz.pinned (OpenSpec.ofChange fnExactPosOfWrong)

/-- 'laws.FnExactHiddenBy': WHATEVER THE INPUT: true; the input reads as it did. -/
def fnExactHiddenBySpec : ChangeSpec := { name := "fnExactHiddenBy", fn := fun _ => fun
  | [d1, d2, d3] => { results := [.lit (.bool true)], args := [d1, d2, d3] }
  | _ => none }
def fnExactHiddenByRow : OpenClaim := { program := "ytdldgbkdcpdbeabgreat", sum := "e073cc01d7ebd0e81e674450caa99047758f80a44748dc0d8b613277a65f8694", func := "loop.example/g00683/laws.FnExactHiddenBy", spec := "fnExactHiddenBy", inPlace := ["slices.overlaps[loop.example/g00683/impl.Entry]"], unfollowed := true, recurses := true, plainKeys := false, apart := false }
def FnExactHiddenBySaid : Prop := fnExactHiddenByRow.holds Tryz.pinned (OpenSpec.ofChange fnExactHiddenBySpec)

/-- ITS FALSE NEIGHBOUR: 'it returns false'. Refute it at one input. -/
def fnExactHiddenByWrong : ChangeSpec := { name := "fnExactHiddenBy", fn := fun _ => fun
  | [d1, d2, d3] => { results := [.lit (.bool false)], args := [d1, d2, d3] }
  | _ => none }
def FnExactHiddenByWrongFalsely : Prop := fnExactHiddenByRow.holds Tryz.pinned (OpenSpec.ofChange fnExactHiddenByWrong)

/-- 'laws.FnExactNextId': WHATEVER THE INPUT: true; the input reads as it did. -/
def fnExactNextIdSpec : ChangeSpec := { name := "fnExactNextId", fn := fun _ => fun
  | [d] => { results := [.lit (.bool true)], args := [d] }
  | _ => none }
def fnExactNextIdRow : OpenClaim := { program := "ytdldgbkdcpdbeabgreat", sum := "e073cc01d7ebd0e81e674450caa99047758f80a44748dc0d8b613277a65f8694", func := "loop.example/g00683/laws.FnExactNextId", spec := "fnExactNextId", inPlace := ["slices.overlaps[loop.example/g00683/impl.Entry]"], unfollowed := true, recurses := true, plainKeys := false, apart := false }
def FnExactNextIdSaid : Prop := fnExactNextIdRow.holds Tryz.pinned (OpenSpec.ofChange fnExactNextIdSpec)

/-- ITS FALSE NEIGHBOUR: 'it returns false'. Refute it at one input. -/
def fnExactNextIdWrong : ChangeSpec := { name := "fnExactNextId", fn := fun _ => fun
  | [d] => { results := [.lit (.bool false)], args := [d] }
  | _ => none }
def FnExactNextIdWrongFalsely : Prop := fnExactNextIdRow.holds Tryz.pinned (OpenSpec.ofChange fnExactNextIdWrong)

/-- 'laws.FnExactJoinedAt': WHATEVER THE INPUT: true; the input reads as it did. -/
def fnExactJoinedAtSpec : ChangeSpec := { name := "fnExactJoinedAt", fn := fun _ => fun
  | [d1, d2, d3, d4] => { results := [.lit (.bool true)], args := [d1, d2, d3, d4] }
  | _ => none }
def fnExactJoinedAtRow : OpenClaim := { program := "ytdldgbkdcpdbeabgreat", sum := "e073cc01d7ebd0e81e674450caa99047758f80a44748dc0d8b613277a65f8694", func := "loop.example/g00683/laws.FnExactJoinedAt", spec := "fnExactJoinedAt", inPlace := ["slices.overlaps[loop.example/g00683/impl.Entry]"], unfollowed := true, recurses := true, plainKeys := false, apart := false }
def FnExactJoinedAtSaid : Prop := fnExactJoinedAtRow.holds Tryz.pinned (OpenSpec.ofChange fnExactJoinedAtSpec)

/-- ITS FALSE NEIGHBOUR: 'it returns false'. Refute it at one input. -/
def fnExactJoinedAtWrong : ChangeSpec := { name := "fnExactJoinedAt", fn := fun _ => fun
  | [d1, d2, d3, d4] => { results := [.lit (.bool false)], args := [d1, d2, d3, d4] }
  | _ => none }
def FnExactJoinedAtWrongFalsely : Prop := fnExactJoinedAtRow.holds Tryz.pinned (OpenSpec.ofChange fnExactJoinedAtWrong)

/-- 'laws.FnExactRoomsOf': WHATEVER THE INPUT: true; the input reads as it did. -/
def fnExactRoomsOfSpec : ChangeSpec := { name := "fnExactRoomsOf", fn := fun _ => fun
  | [d1, d2] => { results := [.lit (.bool true)], args := [d1, d2] }
  | _ => none }
def fnExactRoomsOfRow : OpenClaim := { program := "ytdldgbkdcpdbeabgreat", sum := "e073cc01d7ebd0e81e674450caa99047758f80a44748dc0d8b613277a65f8694", func := "loop.example/g00683/laws.FnExactRoomsOf", spec := "fnExactRoomsOf", inPlace := ["slices.overlaps[loop.example/g00683/impl.Entry]"], unfollowed := true, recurses := true, plainKeys := false, apart := false }
def FnExactRoomsOfSaid : Prop := fnExactRoomsOfRow.holds Tryz.pinned (OpenSpec.ofChange fnExactRoomsOfSpec)

/-- ITS FALSE NEIGHBOUR: 'it returns false'. Refute it at one input. -/
def fnExactRoomsOfWrong : ChangeSpec := { name := "fnExactRoomsOf", fn := fun _ => fun
  | [d1, d2] => { results := [.lit (.bool false)], args := [d1, d2] }
  | _ => none }
def FnExactRoomsOfWrongFalsely : Prop := fnExactRoomsOfRow.holds Tryz.pinned (OpenSpec.ofChange fnExactRoomsOfWrong)

/- THE SECOND FORM. 'bulk': how many values and letters a reading holds, each counted each time it is reached (what is shared counts as often as it is met; a slice's spare places count too). A statement '..UptoSaid' is the law's where the arguments, and the package variables that the reading takes, are together of bulk at most 1048576: NARROWER than '..Said'. Prove '..Said' where nothing that the law and all that it calls make is longer than what came in: it says more and counts as full. Else prove '..UptoSaid'. A law counts once. -/
mutual
def uptoBulk {H : Type} : DataW H → Nat
  | .lit (.string bytes) => bytes.length + 1
  | .lit _ => 1
  | .nil => 1
  | .ptr d => uptoBulk d + 1
  | .slice elems spare => uptoBulkAll elems + uptoBulkAll spare + 1
  | .agg parts => uptoBulkAll parts + 1
  | .iface _ d => uptoBulk d + 1
  | .map entries => uptoBulkEntries entries + 1
  | .held _ => 1
def uptoBulkAll {H : Type} : List (DataW H) → Nat
  | [] => 0
  | d :: r => uptoBulk d + uptoBulkAll r
def uptoBulkEntries {H : Type} : List (Lit × DataW H) → Nat
  | [] => 0
  | x :: r => uptoBulkEntry x + uptoBulkEntries r
def uptoBulkEntry {H : Type} : Lit × DataW H → Nat
  | (.string bytes, d) => bytes.length + uptoBulk d + 1
  | (_, d) => uptoBulk d + 1
 end
def uptoSmall : (H : Type) → List (DataW H) → Bool := fun _ ds => decide (uptoBulkAll ds ≤ 1048576)
def OpenSpec.upto (s : _root_.Go.ChangeSpec) : _root_.Go.OpenSpec := { _root_.Go.OpenSpec.ofChange s with cond := some uptoSmall }

/-- 'laws.FnExactHubRight', WHERE WHAT IT READS IS OF BULK AT MOST 1048576: true; the input reads as it did. -/
def fnExactHubRightUptoRow : OpenClaim := { program := "ytdldgbkdcpdbeabgreat", sum := "e073cc01d7ebd0e81e674450caa99047758f80a44748dc0d8b613277a65f8694", func := "loop.example/g00683/laws.FnExactHubRight", spec := "fnExactHubRight", inPlace := ["slices.overlaps[loop.example/g00683/impl.Entry]"], unfollowed := true, recurses := true, plainKeys := false, apart := false, narrowed := true }
def FnExactHubRightUptoSaid : Prop := fnExactHubRightUptoRow.holds Tryz.pinned (OpenSpec.upto fnExactHubRightSpec)

/-- 'laws.FnExactPosOf', WHERE WHAT IT READS IS OF BULK AT MOST 1048576: true; the input reads as it did. -/
def fnExactPosOfUptoRow : OpenClaim := { program := "ytdldgbkdcpdbeabgreat", sum := "e073cc01d7ebd0e81e674450caa99047758f80a44748dc0d8b613277a65f8694", func := "loop.example/g00683/laws.FnExactPosOf", spec := "fnExactPosOf", inPlace := ["slices.overlaps[loop.example/g00683/impl.Entry]"], unfollowed := true, recurses := true, plainKeys := false, apart := false, narrowed := true }
def FnExactPosOfUptoSaid : Prop := fnExactPosOfUptoRow.holds Tryz.pinned (OpenSpec.upto fnExactPosOfSpec)

/-- 'laws.FnExactHiddenBy', WHERE WHAT IT READS IS OF BULK AT MOST 1048576: true; the input reads as it did. -/
def fnExactHiddenByUptoRow : OpenClaim := { program := "ytdldgbkdcpdbeabgreat", sum := "e073cc01d7ebd0e81e674450caa99047758f80a44748dc0d8b613277a65f8694", func := "loop.example/g00683/laws.FnExactHiddenBy", spec := "fnExactHiddenBy", inPlace := ["slices.overlaps[loop.example/g00683/impl.Entry]"], unfollowed := true, recurses := true, plainKeys := false, apart := false, narrowed := true }
def FnExactHiddenByUptoSaid : Prop := fnExactHiddenByUptoRow.holds Tryz.pinned (OpenSpec.upto fnExactHiddenBySpec)

/-- 'laws.FnExactNextId', WHERE WHAT IT READS IS OF BULK AT MOST 1048576: true; the input reads as it did. -/
def fnExactNextIdUptoRow : OpenClaim := { program := "ytdldgbkdcpdbeabgreat", sum := "e073cc01d7ebd0e81e674450caa99047758f80a44748dc0d8b613277a65f8694", func := "loop.example/g00683/laws.FnExactNextId", spec := "fnExactNextId", inPlace := ["slices.overlaps[loop.example/g00683/impl.Entry]"], unfollowed := true, recurses := true, plainKeys := false, apart := false, narrowed := true }
def FnExactNextIdUptoSaid : Prop := fnExactNextIdUptoRow.holds Tryz.pinned (OpenSpec.upto fnExactNextIdSpec)

/-- 'laws.FnExactJoinedAt', WHERE WHAT IT READS IS OF BULK AT MOST 1048576: true; the input reads as it did. -/
def fnExactJoinedAtUptoRow : OpenClaim := { program := "ytdldgbkdcpdbeabgreat", sum := "e073cc01d7ebd0e81e674450caa99047758f80a44748dc0d8b613277a65f8694", func := "loop.example/g00683/laws.FnExactJoinedAt", spec := "fnExactJoinedAt", inPlace := ["slices.overlaps[loop.example/g00683/impl.Entry]"], unfollowed := true, recurses := true, plainKeys := false, apart := false, narrowed := true }
def FnExactJoinedAtUptoSaid : Prop := fnExactJoinedAtUptoRow.holds Tryz.pinned (OpenSpec.upto fnExactJoinedAtSpec)

/-- 'laws.FnExactRoomsOf', WHERE WHAT IT READS IS OF BULK AT MOST 1048576: true; the input reads as it did. -/
def fnExactRoomsOfUptoRow : OpenClaim := { program := "ytdldgbkdcpdbeabgreat", sum := "e073cc01d7ebd0e81e674450caa99047758f80a44748dc0d8b613277a65f8694", func := "loop.example/g00683/laws.FnExactRoomsOf", spec := "fnExactRoomsOf", inPlace := ["slices.overlaps[loop.example/g00683/impl.Entry]"], unfollowed := true, recurses := true, plainKeys := false, apart := false, narrowed := true }
def FnExactRoomsOfUptoSaid : Prop := fnExactRoomsOfUptoRow.holds Tryz.pinned (OpenSpec.upto fnExactRoomsOfSpec)

end Rows
end Go.Proofs.YtdldgbkdcpdbeabGreat
