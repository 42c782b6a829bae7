/- Closed facts of the law BellNames: its number, and what it and all that it calls are. No condition. -/
import Derived.Test.YtkcjeopdenhafaaGreatRows
import Derived.WalkKit
import Derived.ProofKit
import Derived.OpenShut
namespace Go.Proofs.YtkcjeopdenhafaaGreat.bellNames
theorem numbered : Tryz.prog.funcNamed Rows.bellNamesRow.func = some 3 := by kernel_rfl
theorem inPlaceIs : Tryz.prog.inPlace 3 = ["slices.overlaps[dumbwaiter/api.Tok]"] := by kernel_rfl
theorem unfollowedIs : Tryz.prog.unfollowed 3 = true := by kernel_rfl
theorem recursesIs : Tryz.prog.recurses 3 = true := by kernel_rfl
theorem namedIs : Tryz.prog.varsNamed 3 = [] := by kernel_rfl
end Go.Proofs.YtkcjeopdenhafaaGreat.bellNames
