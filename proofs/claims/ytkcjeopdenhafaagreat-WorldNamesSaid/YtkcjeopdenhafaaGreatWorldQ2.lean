/- Part 2 of the run of a closed call of function 18 ends as it is written. No condition. -/
import Derived.Test.YtkcjeopdenhafaaGreatWorldQ0
namespace Go.Proofs.YtkcjeopdenhafaaGreat.worldNames
open Go.K
theorem part2 : pruneR ids2 (execHead (callN tab 5000 200) 5000 3 (tailK 5 (bodyOf tab 18)) fr1 S1) = .ok fr2 S2 := by kernel_rfl
end Go.Proofs.YtkcjeopdenhafaaGreat.worldNames
