/- The types of the program are laid out as their rows say. No condition. -/
import Derived.Test.YtkcjeopdenhafaaGreatRows
import Derived.WalkKit
import Derived.ProofKit
import Derived.OpenShut
namespace Go.Proofs.YtkcjeopdenhafaaGreat
theorem facts_laid : laidOutB Tryz.prog = true := by kernel_rfl
end Go.Proofs.YtkcjeopdenhafaaGreat
