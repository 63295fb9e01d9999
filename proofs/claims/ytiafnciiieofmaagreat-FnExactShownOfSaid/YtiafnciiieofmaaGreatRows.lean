/-
  No cell of these rows narrows 'for every input' (looked for: loops, veiled, ifaces, maps, wideKeys, modest, calm, conditions, laid).
  DERIVED. THE GIVEN ROWS OF THIS SEAT. 6 by the template 'for every input the law returns true; each argument reads behind the call as it read before'; 0 by the template 'total and deterministic' (their statements: YtiafnciiieofmaaGreatTotals.lean).
  GIVEN WITH THE SEED: the statements are not yours to turn. If you find one false, say at which input.
  Laid BY PROGRAM, IN A SANDBOX (cutbox-rows.mjs): the forced cells as the released guide's own fill.sh prints them over the translation 82f5864d3f21f25f… (all of the seat's roots in one cut). By AI agents, Wed Nov 11 2026. No macro, syntax, notation, axiom, sorry.
-/
import Derived.Test.YtiafnciiieofmaaGreatChecked
import GoSem.Claim
import GoSem.ClaimJoined
import GoSem.ClaimMapViews
import Derived.JoinedTies
import Derived.KernelRfl
namespace Go.Proofs.YtiafnciiieofmaaGreat
/- THE CELL 'sum', in the pinned program and in every row, IS THE sha256 OF THE DUMP (.gsa) THAT YtiafnciiieofmaaGreatProg.lean LOADS. Nothing in Lean hashes anything: it is a label: what it is worth is what the hold of that sum in a sandbox is worth. -/
noncomputable def Tryz.pinned : Pinned := { name := "ytiafnciiieofmaagreat", sum := "82f5864d3f21f25f4523e8a230d34f6c26263c21c2f1fda5ce78ebf18c163487", checked := Tryz.checked }
namespace Rows
def none {H : Type} : Left H := { results := [], args := [] }

/-- 'laws.FnExactNextId': WHATEVER THE INPUT: true; the input reads as it did. -/
def fnExactNextIdSpec : ChangeSpec := { name := "fnExactNextId", fn := fun _ => fun
  | [d] => { results := [.lit (.bool true)], args := [d] }
  | _ => none }
def fnExactNextIdRow : OpenClaim := { program := "ytiafnciiieofmaagreat", sum := "82f5864d3f21f25f4523e8a230d34f6c26263c21c2f1fda5ce78ebf18c163487", func := "loop.example/g00683/laws.FnExactNextId", spec := "fnExactNextId", inPlace := ["slices.overlaps[loop.example/g00683/impl.Entry]"], unfollowed := true, recurses := true, plainKeys := false, apart := false }
def FnExactNextIdSaid : Prop := fnExactNextIdRow.holds Tryz.pinned (OpenSpec.ofChange fnExactNextIdSpec)

/-- ITS FALSE NEIGHBOUR: 'it returns false'. Refute it at one input. -/
def fnExactNextIdWrong : ChangeSpec := { name := "fnExactNextId", fn := fun _ => fun
  | [d] => { results := [.lit (.bool false)], args := [d] }
  | _ => none }
def FnExactNextIdWrongFalsely : Prop := fnExactNextIdRow.holds Tryz.pinned (OpenSpec.ofChange fnExactNextIdWrong)

/-- 'laws.FnExactJoinedAt': WHATEVER THE INPUT: true; the input reads as it did. -/
def fnExactJoinedAtSpec : ChangeSpec := { name := "fnExactJoinedAt", fn := fun _ => fun
  | [d1, d2, d3, d4] => { results := [.lit (.bool true)], args := [d1, d2, d3, d4] }
  | _ => none }
def fnExactJoinedAtRow : OpenClaim := { program := "ytiafnciiieofmaagreat", sum := "82f5864d3f21f25f4523e8a230d34f6c26263c21c2f1fda5ce78ebf18c163487", func := "loop.example/g00683/laws.FnExactJoinedAt", spec := "fnExactJoinedAt", inPlace := ["slices.overlaps[loop.example/g00683/impl.Entry]"], unfollowed := true, recurses := true, plainKeys := false, apart := false }
def FnExactJoinedAtSaid : Prop := fnExactJoinedAtRow.holds Tryz.pinned (OpenSpec.ofChange fnExactJoinedAtSpec)

/-- ITS FALSE NEIGHBOUR: 'it returns false'. Refute it at one input. -/
def fnExactJoinedAtWrong : ChangeSpec := { name := "fnExactJoinedAt", fn := fun _ => fun
  | [d1, d2, d3, d4] => { results := [.lit (.bool false)], args := [d1, d2, d3, d4] }
  | _ => none }
def FnExactJoinedAtWrongFalsely : Prop := fnExactJoinedAtRow.holds Tryz.pinned (OpenSpec.ofChange fnExactJoinedAtWrong)

/-- 'laws.FnExactRoomsOf': WHATEVER THE INPUT: true; the input reads as it did. -/
def fnExactRoomsOfSpec : ChangeSpec := { name := "fnExactRoomsOf", fn := fun _ => fun
  | [d1, d2] => { results := [.lit (.bool true)], args := [d1, d2] }
  | _ => none }
def fnExactRoomsOfRow : OpenClaim := { program := "ytiafnciiieofmaagreat", sum := "82f5864d3f21f25f4523e8a230d34f6c26263c21c2f1fda5ce78ebf18c163487", func := "loop.example/g00683/laws.FnExactRoomsOf", spec := "fnExactRoomsOf", inPlace := ["slices.overlaps[loop.example/g00683/impl.Entry]"], unfollowed := true, recurses := true, plainKeys := false, apart := false }
def FnExactRoomsOfSaid : Prop := fnExactRoomsOfRow.holds Tryz.pinned (OpenSpec.ofChange fnExactRoomsOfSpec)

/-- ITS FALSE NEIGHBOUR: 'it returns false'. Refute it at one input. -/
def fnExactRoomsOfWrong : ChangeSpec := { name := "fnExactRoomsOf", fn := fun _ => fun
  | [d1, d2] => { results := [.lit (.bool false)], args := [d1, d2] }
  | _ => none }
def FnExactRoomsOfWrongFalsely : Prop := fnExactRoomsOfRow.holds Tryz.pinned (OpenSpec.ofChange fnExactRoomsOfWrong)

/-- 'laws.FnExactSees': WHATEVER THE INPUT: true; the input reads as it did. -/
def fnExactSeesSpec : ChangeSpec := { name := "fnExactSees", fn := fun _ => fun
  | [d1, d2, d3, d4] => { results := [.lit (.bool true)], args := [d1, d2, d3, d4] }
  | _ => none }
def fnExactSeesRow : OpenClaim := { program := "ytiafnciiieofmaagreat", sum := "82f5864d3f21f25f4523e8a230d34f6c26263c21c2f1fda5ce78ebf18c163487", func := "loop.example/g00683/laws.FnExactSees", spec := "fnExactSees", inPlace := ["slices.overlaps[loop.example/g00683/impl.Entry]"], unfollowed := true, recurses := true, plainKeys := false, apart := false }
def FnExactSeesSaid : Prop := fnExactSeesRow.holds Tryz.pinned (OpenSpec.ofChange fnExactSeesSpec)

/-- ITS FALSE NEIGHBOUR: 'it returns false'. Refute it at one input. -/
def fnExactSeesWrong : ChangeSpec := { name := "fnExactSees", fn := fun _ => fun
  | [d1, d2, d3, d4] => { results := [.lit (.bool false)], args := [d1, d2, d3, d4] }
  | _ => none }
def FnExactSeesWrongFalsely : Prop := fnExactSeesRow.holds Tryz.pinned (OpenSpec.ofChange fnExactSeesWrong)

/-- 'laws.FnExactShownOf': WHATEVER THE INPUT: true; the input reads as it did. -/
def fnExactShownOfSpec : ChangeSpec := { name := "fnExactShownOf", fn := fun _ => fun
  | [d1, d2, d3] => { results := [.lit (.bool true)], args := [d1, d2, d3] }
  | _ => none }
def fnExactShownOfRow : OpenClaim := { program := "ytiafnciiieofmaagreat", sum := "82f5864d3f21f25f4523e8a230d34f6c26263c21c2f1fda5ce78ebf18c163487", func := "loop.example/g00683/laws.FnExactShownOf", spec := "fnExactShownOf", inPlace := ["slices.overlaps[loop.example/g00683/impl.Entry]"], unfollowed := true, recurses := true, plainKeys := false, apart := false }
def FnExactShownOfSaid : Prop := fnExactShownOfRow.holds Tryz.pinned (OpenSpec.ofChange fnExactShownOfSpec)

/-- ITS FALSE NEIGHBOUR: 'it returns false'. Refute it at one input. -/
def fnExactShownOfWrong : ChangeSpec := { name := "fnExactShownOf", fn := fun _ => fun
  | [d1, d2, d3] => { results := [.lit (.bool false)], args := [d1, d2, d3] }
  | _ => none }
def FnExactShownOfWrongFalsely : Prop := fnExactShownOfRow.holds Tryz.pinned (OpenSpec.ofChange fnExactShownOfWrong)

/-- 'laws.FnExactPeersRight': WHATEVER THE INPUT: true; the input reads as it did. -/
def fnExactPeersRightSpec : ChangeSpec := { name := "fnExactPeersRight", fn := fun _ => fun
  | [d] => { results := [.lit (.bool true)], args := [d] }
  | _ => none }
def fnExactPeersRightRow : OpenClaim := { program := "ytiafnciiieofmaagreat", sum := "82f5864d3f21f25f4523e8a230d34f6c26263c21c2f1fda5ce78ebf18c163487", func := "loop.example/g00683/laws.FnExactPeersRight", spec := "fnExactPeersRight", inPlace := ["slices.overlaps[loop.example/g00683/impl.Entry]"], unfollowed := true, recurses := true, plainKeys := false, apart := false }
def FnExactPeersRightSaid : Prop := fnExactPeersRightRow.holds Tryz.pinned (OpenSpec.ofChange fnExactPeersRightSpec)

/-- ITS FALSE NEIGHBOUR: 'it returns false'. Refute it at one input. -/
def fnExactPeersRightWrong : ChangeSpec := { name := "fnExactPeersRight", fn := fun _ => fun
  | [d] => { results := [.lit (.bool false)], args := [d] }
  | _ => none }
def FnExactPeersRightWrongFalsely : Prop := fnExactPeersRightRow.holds Tryz.pinned (OpenSpec.ofChange fnExactPeersRightWrong)

/- THE SECOND FORM. 'bulk': how many values and letters a reading holds, each counted each time it is reached (what is shared counts as often as it is met; a slice's spare places count too). A statement '..UptoSaid' is the law's where the arguments, and the package variables that the reading takes, are together of bulk at most 1048576: NARROWER than '..Said'. Prove '..Said' where nothing that the law and all that it calls make is longer than what came in: it says more and counts as full. Else prove '..UptoSaid'. A law counts once. -/
mutual
def uptoBulk {H : Type} : DataW H → Nat
  | .lit (.string bytes) => bytes.length + 1
  | .lit _ => 1
  | .nil => 1
  | .ptr d => uptoBulk d + 1
  | .slice elems spare => uptoBulkAll elems + uptoBulkAll spare + 1
  | .agg parts => uptoBulkAll parts + 1
  | .iface _ d => uptoBulk d + 1
  | .map entries => uptoBulkEntries entries + 1
  | .held _ => 1
def uptoBulkAll {H : Type} : List (DataW H) → Nat
  | [] => 0
  | d :: r => uptoBulk d + uptoBulkAll r
def uptoBulkEntries {H : Type} : List (Lit × DataW H) → Nat
  | [] => 0
  | x :: r => uptoBulkEntry x + uptoBulkEntries r
def uptoBulkEntry {H : Type} : Lit × DataW H → Nat
  | (.string bytes, d) => bytes.length + uptoBulk d + 1
  | (_, d) => uptoBulk d + 1
 end
def uptoSmall : (H : Type) → List (DataW H) → Bool := fun _ ds => decide (uptoBulkAll ds ≤ 1048576)
def OpenSpec.upto (s : _root_.Go.ChangeSpec) : _root_.Go.OpenSpec := { _root_.Go.OpenSpec.ofChange s with cond := some uptoSmall }

/-- 'laws.FnExactNextId', WHERE WHAT IT READS IS OF BULK AT MOST 1048576: true; the input reads as it did. -/
def fnExactNextIdUptoRow : OpenClaim := { program := "ytiafnciiieofmaagreat", sum := "82f5864d3f21f25f4523e8a230d34f6c26263c21c2f1fda5ce78ebf18c163487", func := "loop.example/g00683/laws.FnExactNextId", spec := "fnExactNextId", inPlace := ["slices.overlaps[loop.example/g00683/impl.Entry]"], unfollowed := true, recurses := true, plainKeys := false, apart := false, narrowed := true }
def FnExactNextIdUptoSaid : Prop := fnExactNextIdUptoRow.holds Tryz.pinned (OpenSpec.upto fnExactNextIdSpec)

/-- 'laws.FnExactJoinedAt', WHERE WHAT IT READS IS OF BULK AT MOST 1048576: true; the input reads as it did. -/
def fnExactJoinedAtUptoRow : OpenClaim := { program := "ytiafnciiieofmaagreat", sum := "82f5864d3f21f25f4523e8a230d34f6c26263c21c2f1fda5ce78ebf18c163487", func := "loop.example/g00683/laws.FnExactJoinedAt", spec := "fnExactJoinedAt", inPlace := ["slices.overlaps[loop.example/g00683/impl.Entry]"], unfollowed := true, recurses := true, plainKeys := false, apart := false, narrowed := true }
def FnExactJoinedAtUptoSaid : Prop := fnExactJoinedAtUptoRow.holds Tryz.pinned (OpenSpec.upto fnExactJoinedAtSpec)

/-- 'laws.FnExactRoomsOf', WHERE WHAT IT READS IS OF BULK AT MOST 1048576: true; the input reads as it did. -/
def fnExactRoomsOfUptoRow : OpenClaim := { program := "ytiafnciiieofmaagreat", sum := "82f5864d3f21f25f4523e8a230d34f6c26263c21c2f1fda5ce78ebf18c163487", func := "loop.example/g00683/laws.FnExactRoomsOf", spec := "fnExactRoomsOf", inPlace := ["slices.overlaps[loop.example/g00683/impl.Entry]"], unfollowed := true, recurses := true, plainKeys := false, apart := false, narrowed := true }
def FnExactRoomsOfUptoSaid : Prop := fnExactRoomsOfUptoRow.holds Tryz.pinned (OpenSpec.upto fnExactRoomsOfSpec)

/-- 'laws.FnExactSees', WHERE WHAT IT READS IS OF BULK AT MOST 1048576: true; the input reads as it did. -/
def fnExactSeesUptoRow : OpenClaim := { program := "ytiafnciiieofmaagreat", sum := "82f5864d3f21f25f4523e8a230d34f6c26263c21c2f1fda5ce78ebf18c163487", func := "loop.example/g00683/laws.FnExactSees", spec := "fnExactSees", inPlace := ["slices.overlaps[loop.example/g00683/impl.Entry]"], unfollowed := true, recurses := true, plainKeys := false, apart := false, narrowed := true }
def FnExactSeesUptoSaid : Prop := fnExactSeesUptoRow.holds Tryz.pinned (OpenSpec.upto fnExactSeesSpec)

/-- 'laws.FnExactShownOf', WHERE WHAT IT READS IS OF BULK AT MOST 1048576: true; the input reads as it did. -/
def fnExactShownOfUptoRow : OpenClaim := { program := "ytiafnciiieofmaagreat", sum := "82f5864d3f21f25f4523e8a230d34f6c26263c21c2f1fda5ce78ebf18c163487", func := "loop.example/g00683/laws.FnExactShownOf", spec := "fnExactShownOf", inPlace := ["slices.overlaps[loop.example/g00683/impl.Entry]"], unfollowed := true, recurses := true, plainKeys := false, apart := false, narrowed := true }
def FnExactShownOfUptoSaid : Prop := fnExactShownOfUptoRow.holds Tryz.pinned (OpenSpec.upto fnExactShownOfSpec)

/-- 'laws.FnExactPeersRight', WHERE WHAT IT READS IS OF BULK AT MOST 1048576: true; the input reads as it did. -/
def fnExactPeersRightUptoRow : OpenClaim := { program := "ytiafnciiieofmaagreat", sum := "82f5864d3f21f25f4523e8a230d34f6c26263c21c2f1fda5ce78ebf18c163487", func := "loop.example/g00683/laws.FnExactPeersRight", spec := "fnExactPeersRight", inPlace := ["slices.overlaps[loop.example/g00683/impl.Entry]"], unfollowed := true, recurses := true, plainKeys := false, apart := false, narrowed := true }
def FnExactPeersRightUptoSaid : Prop := fnExactPeersRightUptoRow.holds Tryz.pinned (OpenSpec.upto fnExactPeersRightSpec)

end Rows
end Go.Proofs.YtiafnciiieofmaaGreat
