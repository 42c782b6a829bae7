/- The run of WorldNames, its closed call of function 18 known, ends with true. No condition. -/
import Derived.Test.YtkcjeopdenhafaaGreatWorldQ0
namespace Go.Proofs.YtkcjeopdenhafaaGreat.worldNames
open Go.K
theorem partW : lastB (callO (ovB 18 true) tab 5000 200) tab 4 5000 (bodyOf tab 4) ⟨.nil, []⟩ ⟨.nil, .z⟩ = true := by kernel_rfl
theorem cutsW : cutsB Tryz.prog 4 [] = true := by kernel_rfl
theorem livesSome : (tab 18).isSome = true := by kernel_rfl
theorem worldSome : (tab 4).isSome = true := by kernel_rfl
end Go.Proofs.YtkcjeopdenhafaaGreat.worldNames
