/- BellNames: the closed law of that name returns true, and nothing that was there is changed; shown by one run of the machine, in the kernel. No condition. -/
import Derived.Test.YtkcjeopdenhafaaGreatBellRun
import Derived.Test.YtkcjeopdenhafaaGreatBellFc
import Derived.Test.YtkcjeopdenhafaaGreatFa
import Derived.Test.YtkcjeopdenhafaaGreatFb
namespace Go.Proofs.YtkcjeopdenhafaaGreat.bellNames
open Go.ChangeShapes Go.WideShapes Go.ChangeAt Go.RowKit

theorem walk (w : World) : Calls Tryz.prog 3 #[] w fun e w' => e = .returned (.bool true) ∧ Grown w w' := by
  obtain ⟨S, h⟩ := isT_ok run
  exact K.closed_run cx_is mixed tab_is h w

set_option maxRecDepth 100000 in
theorem lifted (os : Os) (started : os.Started) (H : Type) (enc : TypeId × Value → H) :
    ReturnsInHanded {} Tryz.checked os 3 .any (Rows.bellNamesSpec.pre6 enc Tryz.prog Tryz.f3 Rows.bellNamesRow.domain false) (Rows.bellNamesSpec.post enc Tryz.prog Tryz.f3 false true false false) := by
  refine returnsInHanded_of_change (C := Tryz.checked) facts_own started (by kernel_rfl) Tryz.func3
    (ChangeSpec.witness6 (enc := enc) (C := Tryz.checked) false ⟨#[], #[], []⟩ 8 (by kernel_rfl) (by kernel_rfl) (by kernel_rfl) (by kernel_rfl)) ?_
  intro W base args ds gs before hval0 hW hcnd _
  have hW' := hW
  obtain ⟨p, q, hA0, hV, rfl, hfz, hnd⟩ := hW
  have hA : DataW.TrodAll enc Tryz.prog W 0 (fun _ => true) true Tryz.f3.params.toList args.toList ds p := hA0
  rw [Tryz.params3] at hA
  obtain ⟨rfl, rfl, rfl⟩ := trodAll_none hA
  obtain ⟨rfl, rfl⟩ := trodVars_none hV
  clear hA0 hval0
  simp only [List.append_nil] at hW'
  refine (walk W).mono fun e W' ⟨he, hg⟩ => ?_
  subst he
  exact ⟨_, rfl, post_of_same (pa := []) (pv := []) hW' (fun _ _ _ => (trodAll_cons_mk (shut_bool Tryz.underlying4 _) trodAll_mk0)) (fun sp _ => rfl) (fun _ _ => rfl) rfl
    (hg.frame _) hg.2.1 (ok_one (by kernel_rfl) rfl (okWide_bool_mk Tryz.underlying4 _))⟩

theorem facts : joinedFacts Tryz.prog 3 Tryz.f3 Rows.bellNamesSpec Rows.bellNamesRow = true := by
  unfold joinedFacts
  rw [facts_laid, facts_maps, facts_stops, facts_knobs, inPlaceIs, unfollowedIs, recursesIs, namedIs, facts_keys, facts_heard, facts_enter]
  kernel_rfl

theorem isInst : Tryz.f3.isInstance Tryz.prog Rows.bellNamesRow.origin Rows.bellNamesRow.targs := of_decide_eq_true (by kernel_rfl)

theorem isWrap : Tryz.f3.isWrapper Tryz.prog Rows.bellNamesRow.wrapper Rows.bellNamesRow.mainSum := by
  unfold Func.isWrapper
  first | (rw [if_pos (by decide +kernel)]; kernel_rfl) | (rw [if_neg (by decide +kernel)]; exact ⟨rfl, rfl⟩)

theorem over : Rows.bellNamesRow.holds Tryz.pinned (OpenSpec.ofChange Rows.bellNamesSpec) :=
  OpenClaim.holds_of_wide 3 Tryz.f3 rfl rfl rfl rfl rfl rfl rfl ⟨rfl, rfl, rfl, rfl, rfl⟩ rfl rfl rfl rfl rfl numbered Tryz.func3 facts isInst isWrap
    (fun os started H enc _ => lifted os started H enc)

theorem proved : Rows.BellNamesSaid :=
  over
#print axioms proved
end Go.Proofs.YtkcjeopdenhafaaGreat.bellNames
