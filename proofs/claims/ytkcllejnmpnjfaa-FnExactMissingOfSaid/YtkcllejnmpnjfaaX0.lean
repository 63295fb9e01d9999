/- Closed facts of the whole program that every row asks. No conditions. -/
import Derived.Test.YtkcllejnmpnjfaaRows
import Derived.Test.YtkcllejnmpnjfaaL3
import Derived.WalkKit
import Derived.ProofKit
import Derived.OpenShut
import Derived.ShutString
import Derived.ChangeOld
import Derived.Below
import Derived.SizedLaws
namespace Go.Proofs.Ytkcllejnmpnjfaa
set_option maxRecDepth 100000
theorem and_mk {a b : Bool} (ha : a = true) (hb : b = true) : (a && b) = true := by rw [ha, hb]; rfl
theorem p_own : ownKnob Try.prog.godebug = none := by kernel_rfl
theorem p_laid : laidOutB Try.prog = true := by kernel_rfl
theorem p_maps : mapsRowed Try.prog = true := by kernel_rfl
theorem p_stops : (Try.prog.stops == []) = true := by kernel_rfl
theorem p_knobs : (Try.prog.stopKnobs == []) = true := by kernel_rfl
theorem p_keys : Try.prog.plainKeys = true := by kernel_rfl
theorem p_heard : Try.prog.stopsHeard = true := by kernel_rfl
theorem p_enter : Try.prog.mayEnter = true := by kernel_rfl
end Go.Proofs.Ytkcllejnmpnjfaa
