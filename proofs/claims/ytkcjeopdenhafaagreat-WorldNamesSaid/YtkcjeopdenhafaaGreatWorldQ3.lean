/- The last part of the run of a closed call of function 18 ends with true. No condition. -/
import Derived.Test.YtkcjeopdenhafaaGreatWorldQ0
namespace Go.Proofs.YtkcjeopdenhafaaGreat.worldNames
open Go.K
theorem part3 : lastB (callN tab 5000 200) tab 18 5000 (tailK 3 (tailK 5 (bodyOf tab 18))) fr2 S2 = true := by kernel_rfl
theorem cuts : cutsB Tryz.prog 18 [5, 3] = true := by kernel_rfl
end Go.Proofs.YtkcjeopdenhafaaGreat.worldNames
