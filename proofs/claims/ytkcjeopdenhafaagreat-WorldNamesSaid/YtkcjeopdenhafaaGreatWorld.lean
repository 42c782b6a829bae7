/- WorldNames: the closed law of that name returns true, and nothing that was there is changed; shown by one run of the machine, in the kernel. No condition. -/
import Derived.Test.YtkcjeopdenhafaaGreatWorldQ1
import Derived.Test.YtkcjeopdenhafaaGreatWorldQ2
import Derived.Test.YtkcjeopdenhafaaGreatWorldQ3
import Derived.Test.YtkcjeopdenhafaaGreatWorldW
import Derived.Test.YtkcjeopdenhafaaGreatWorldFc
import Derived.Test.YtkcjeopdenhafaaGreatFa
import Derived.Test.YtkcjeopdenhafaaGreatFb
namespace Go.Proofs.YtkcjeopdenhafaaGreat.worldNames
open Go.ChangeShapes Go.WideShapes Go.ChangeAt Go.RowKit

theorem livesParts : K.Parts (K.callN tab 5000 200) tab 18 5000 (K.bodyOf tab 18) ⟨.nil, []⟩ ⟨.nil, .z⟩ [5, 3] := .cut ids1 part1 (.cut ids2 part2 (.last part3))

theorem livesOv : K.OvOk (K.ccOf cx) Tryz.prog (K.ovB 18 true) := by
  obtain ⟨h1, S', h2⟩ := K.parts_ok cx_is mixed (K.callN_ok cx_is mixed tab_is 5000 200) tab_is cuts livesParts livesSome
  exact K.ovB_ok h1 (K.closed_val h2)

theorem walk (w : World) : Calls Tryz.prog 4 #[] w fun e w' => e = .returned (.bool true) ∧ Grown w w' := by
  obtain ⟨h1, S', h2⟩ := K.parts_ok cx_is mixed (K.callO_ok cx_is mixed livesOv tab_is 5000 200) tab_is cutsW (.last partW) worldSome
  exact K.closed_calls h2 w

set_option maxRecDepth 100000 in
theorem lifted (os : Os) (started : os.Started) (H : Type) (enc : TypeId × Value → H) :
    ReturnsInHanded {} Tryz.checked os 4 .any (Rows.worldNamesSpec.pre6 enc Tryz.prog Tryz.f4 Rows.worldNamesRow.domain false) (Rows.worldNamesSpec.post enc Tryz.prog Tryz.f4 false true false false) := by
  refine returnsInHanded_of_change (C := Tryz.checked) facts_own started (by kernel_rfl) Tryz.func4
    (ChangeSpec.witness6 (enc := enc) (C := Tryz.checked) false ⟨#[], #[], []⟩ 8 (by kernel_rfl) (by kernel_rfl) (by kernel_rfl) (by kernel_rfl)) ?_
  intro W base args ds gs before hval0 hW hcnd _
  have hW' := hW
  obtain ⟨p, q, hA0, hV, rfl, hfz, hnd⟩ := hW
  have hA : DataW.TrodAll enc Tryz.prog W 0 (fun _ => true) true Tryz.f4.params.toList args.toList ds p := hA0
  rw [Tryz.params4] at hA
  obtain ⟨rfl, rfl, rfl⟩ := trodAll_none hA
  obtain ⟨rfl, rfl⟩ := trodVars_none hV
  clear hA0 hval0
  simp only [List.append_nil] at hW'
  refine (walk W).mono fun e W' ⟨he, hg⟩ => ?_
  subst he
  exact ⟨_, rfl, post_of_same (pa := []) (pv := []) hW' (fun _ _ _ => (trodAll_cons_mk (shut_bool Tryz.underlying4 _) trodAll_mk0)) (fun sp _ => rfl) (fun _ _ => rfl) rfl
    (hg.frame _) hg.2.1 (ok_one (by kernel_rfl) rfl (okWide_bool_mk Tryz.underlying4 _))⟩

theorem facts : joinedFacts Tryz.prog 4 Tryz.f4 Rows.worldNamesSpec Rows.worldNamesRow = true := by
  unfold joinedFacts
  rw [facts_laid, facts_maps, facts_stops, facts_knobs, inPlaceIs, unfollowedIs, recursesIs, namedIs, facts_keys, facts_heard, facts_enter]
  kernel_rfl

theorem isInst : Tryz.f4.isInstance Tryz.prog Rows.worldNamesRow.origin Rows.worldNamesRow.targs := of_decide_eq_true (by kernel_rfl)

theorem isWrap : Tryz.f4.isWrapper Tryz.prog Rows.worldNamesRow.wrapper Rows.worldNamesRow.mainSum := by
  unfold Func.isWrapper
  first | (rw [if_pos (by decide +kernel)]; kernel_rfl) | (rw [if_neg (by decide +kernel)]; exact ⟨rfl, rfl⟩)

theorem over : Rows.worldNamesRow.holds Tryz.pinned (OpenSpec.ofChange Rows.worldNamesSpec) :=
  OpenClaim.holds_of_wide 4 Tryz.f4 rfl rfl rfl rfl rfl rfl rfl ⟨rfl, rfl, rfl, rfl, rfl⟩ rfl rfl rfl rfl rfl numbered Tryz.func4 facts isInst isWrap
    (fun os started H enc _ => lifted os started H enc)

theorem proved : Rows.WorldNamesSaid :=
  over
#print axioms proved
end Go.Proofs.YtkcjeopdenhafaaGreat.worldNames
