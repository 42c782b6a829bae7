/- Closed facts of the program that each row asks. No condition. -/
import Derived.Test.YtkcjeopdenhafaaGreatRows
import Derived.WalkKit
import Derived.ProofKit
import Derived.OpenShut
namespace Go.Proofs.YtkcjeopdenhafaaGreat
theorem facts_maps : mapsRowed Tryz.prog = true := by kernel_rfl
theorem facts_stops : Tryz.prog.stops = [] := by kernel_rfl
theorem facts_knobs : Tryz.prog.stopKnobs = [] := by kernel_rfl
theorem facts_keys : Tryz.prog.plainKeys = false := by kernel_rfl
theorem facts_heard : Tryz.prog.stopsHeard = true := by kernel_rfl
theorem facts_enter : Tryz.prog.mayEnter = true := by kernel_rfl
theorem facts_own : ownKnob Tryz.prog.godebug = none := by kernel_rfl
end Go.Proofs.YtkcjeopdenhafaaGreat
