/- Part 1 of the run of a closed call of function 18 ends as it is written. No condition. -/
import Derived.Test.YtkcjeopdenhafaaGreatWorldQ0
namespace Go.Proofs.YtkcjeopdenhafaaGreat.worldNames
open Go.K
theorem part1 : pruneR ids1 (execHead (callN tab 5000 200) 5000 5 (bodyOf tab 18) ⟨.nil, []⟩ ⟨.nil, .z⟩) = .ok fr1 S1 := by kernel_rfl
end Go.Proofs.YtkcjeopdenhafaaGreat.worldNames
