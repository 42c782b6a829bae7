/- The run of the machine for BellNames: it ends with true. No condition. -/
import Derived.Test.YtkcjeopdenhafaaGreatCx
namespace Go.Proofs.YtkcjeopdenhafaaGreat.bellNames

noncomputable def isT (r : K.Res K.V) : Bool := match r with
  | .ok (.bool b) _ => b
  | _ => false

theorem isT_ok {r : K.Res K.V} (h : isT r = true) : ∃ S, r = .ok (.bool true) S := by
  unfold isT at h
  split at h
  · rename_i b S
    subst h
    exact ⟨S, rfl⟩
  · cases h

theorem run : isT (K.callN tab 100000 200 (.fn 3 []) K.S00) = true := by kernel_rfl

end Go.Proofs.YtkcjeopdenhafaaGreat.bellNames
