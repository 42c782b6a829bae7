/- Closed facts of the law WorldNames: its number, and what it and all that it calls are. No condition. -/
import Derived.Test.YtkcjeopdenhafaaGreatRows
import Derived.WalkKit
import Derived.ProofKit
import Derived.OpenShut
namespace Go.Proofs.YtkcjeopdenhafaaGreat.worldNames
theorem numbered : Tryz.prog.funcNamed Rows.worldNamesRow.func = some 4 := by kernel_rfl
theorem inPlaceIs : Tryz.prog.inPlace 4 = [] := by kernel_rfl
theorem unfollowedIs : Tryz.prog.unfollowed 4 = true := by kernel_rfl
theorem recursesIs : Tryz.prog.recurses 4 = true := by kernel_rfl
theorem namedIs : Tryz.prog.varsNamed 4 = [] := by kernel_rfl
end Go.Proofs.YtkcjeopdenhafaaGreat.worldNames
