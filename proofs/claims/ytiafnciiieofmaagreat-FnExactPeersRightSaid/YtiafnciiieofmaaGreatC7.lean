/- The type of a hub, as the arguments are read. No conditions. The type of peers, as the arguments are read. No conditions. Closed facts of the whole program that every row asks, for a program with maps whose keys are structs. No conditions. -/
import Derived.Test.YtiafnciiieofmaaGreatRows
import Derived.WalkKit
import Derived.ProofKit
import Derived.OpenShut
import Derived.ShutString
import Derived.ChangeOld
import Derived.Below
import Derived.SizedLaws
import Derived.Test.YtiafnciiieofmaaGreatC6
set_option linter.unusedSimpArgs false
set_option linter.unusedVariables false
set_option maxRecDepth 10000
section
namespace Go.Proofs.YtiafnciiieofmaaGreat
open Go.Pm
open Go.Gm (Ev Gr)
open Go.ChangeShapes Go.WideShapes Go.ChangeAt Go.RowKit
set_option maxRecDepth 100000
def tSpot : Ty:=.st [.int .i64,.int .i64]
def tSpots : Ty:=.sl 2 16 tSpot
def tGraphs : Ty:=.sl 3 56 tGraph
def tHub : Ty:=.st [tGraphs,tSpots]
theorem in_hub {xs : List V} (h : In tHub xs) : ∃ x : Hb,xs = encHb x ∧ HbOK x:=by
 obtain ⟨_,_,rfl,⟨ra,rfl,hla,hra⟩,_,_,rfl,⟨rb,rfl,hlb,hrb⟩,rfl⟩:=h
 have h0:=reachBytes_lt
 obtain ⟨a,rfl,ha⟩:=list_map_ofG (p:=fun a b=>a = encGr b ∧ GrOK b) (q:=GrOK) (fun _ _ h=>h) fun r hr'=>in_graph (hra r hr')
 obtain ⟨b,rfl,_⟩:=list_map_ofG (p:=fun a b=>a = encSp b) (q:=fun _=>True) (fun _ _ h=>⟨h,trivial⟩) fun r hr'=>by
  obtain ⟨_,_,rfl,⟨n,rfl,_⟩,_,_,rfl,⟨m,rfl,_⟩,rfl⟩:=hrb r hr'
  exact ⟨⟨n,m⟩,rfl⟩
 rw [List.length_map] at hla hlb
 exact ⟨⟨a,b⟩,rfl,⟨by show a.length * 56 ≤ _; omega,ha⟩,by show b.length * 16 ≤ _; omega⟩
theorem ok_hub : OKT Tryz.prog tHub 25:=by
 refine ⟨_,Tryz.underlying25,rfl,⟨_,Tryz.underlying22,ok_graph,?_,?_,?_⟩,rfl,⟨_,Tryz.underlying23,⟨_,Tryz.underlying119,rfl,Tryz.underlying2,rfl,Tryz.underlying2,?_⟩,?_,?_,?_⟩,?_⟩
 all_goals first | kernel_rfl | decide | (show (_ : Nat) = _; kernel_rfl)
end Go.Proofs.YtiafnciiieofmaaGreat
end

section
namespace Go.Proofs.YtiafnciiieofmaaGreat
open Go.Pm
open Go.Gm (Ev Gr)
open Go.ChangeShapes Go.WideShapes Go.ChangeAt Go.RowKit
set_option maxRecDepth 100000
def tLetter : Ty:=.st [.int .i64,.int .i64,.int .i64,.int .i64,.str]
def tLetters : Ty:=.sl 5 48 tLetter
def tHubs : Ty:=.sl 2 48 tHub
def tPeers : Ty:=.st [tHubs,tLetters]
theorem in_peers {xs : List V} (h : In tPeers xs) : ∃ x : Ps,xs = encPs x ∧ PsOK x:=by
 obtain ⟨_,_,rfl,⟨ra,rfl,hla,hra⟩,_,_,rfl,⟨rb,rfl,hlb,hrb⟩,rfl⟩:=h
 have h0:=reachBytes_lt
 obtain ⟨a,rfl,ha⟩:=list_map_ofG (p:=fun a b=>a = encHb b ∧ HbOK b) (q:=HbOK) (fun _ _ h=>h) fun r hr'=>in_hub (hra r hr')
 obtain ⟨b,rfl,hb⟩:=list_map_ofG (p:=fun a b=>a = encLt b ∧ b.text.size < 2 ^ 50) (q:=fun b=>b.text.size < 2 ^ 50) (fun _ _ h=>h) fun r hr'=>by
  obtain ⟨_,_,rfl,⟨k,rfl,_⟩,_,_,rfl,⟨f,rfl,_⟩,_,_,rfl,⟨t,rfl,_⟩,_,_,rfl,⟨m,rfl,_⟩,_,_,rfl,⟨s,rfl,hs⟩,rfl⟩:=hrb r hr'
  exact ⟨⟨k,f,t,m,s⟩,rfl,by show s.size < _; omega⟩
 rw [List.length_map] at hla hlb
 exact ⟨⟨a,b⟩,rfl,⟨by show a.length * 48 ≤ _; omega,ha⟩,by show b.length * 48 ≤ _; omega,hb⟩
theorem ok_peers : OKT Tryz.prog tPeers 54:=by
 refine ⟨_,Tryz.underlying54,rfl,⟨_,Tryz.underlying51,ok_hub,?_,?_,?_⟩,rfl,⟨_,Tryz.underlying52,⟨_,Tryz.underlying158,rfl,Tryz.underlying2,rfl,Tryz.underlying2,rfl,Tryz.underlying2,rfl,Tryz.underlying2,rfl,Tryz.underlying9,?_⟩,?_,?_,?_⟩,?_⟩
 all_goals first | kernel_rfl | decide | (show (_ : Nat) = _; kernel_rfl)
end Go.Proofs.YtiafnciiieofmaaGreat
end

section
namespace Go.Proofs.YtiafnciiieofmaaGreat
set_option maxRecDepth 100000
theorem and_mk {a b : Bool} (ha : a = true) (hb : b = true) : (a && b) = true:=by rw [ha,hb]; rfl
theorem p_own : ownKnob Tryz.prog.godebug = none:=by kernel_rfl
theorem p_laid : laidOutB Tryz.prog = true:=by kernel_rfl
theorem p_maps : mapsRowed Tryz.prog = true:=by kernel_rfl
theorem p_stops : (Tryz.prog.stops == []) = true:=by kernel_rfl
theorem p_knobs : (Tryz.prog.stopKnobs == []) = true:=by kernel_rfl
theorem p_keys : (false == Tryz.prog.plainKeys) = true:=by kernel_rfl
theorem p_heard : Tryz.prog.stopsHeard = true:=by kernel_rfl
theorem p_enter : Tryz.prog.mayEnter = true:=by kernel_rfl
end Go.Proofs.YtiafnciiieofmaaGreat
end
