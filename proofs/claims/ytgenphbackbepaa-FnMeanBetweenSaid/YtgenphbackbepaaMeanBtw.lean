/- For every code a mean of the drawn list is not less than the least element and not greater than the greatest one, and so are the middle one and all moving means; no condition. -/
import Derived.Test.YtgenphbackbepaaLift
import Derived.Test.YtgenphbackbepaaHead
import Derived.Test.YtgenphbackbepaaOpenB
import Derived.Test.YtgenphbackbepaaMBLaw
namespace Go.Proofs.Ytgenphbackbepaa
open Go.ChangeShapes Go.WideShapes Go.ChangeAt Go.RowKit

set_option maxRecDepth 100000 in
theorem MeanBtw_lifted (os : Os) (started : os.Started) (H : Type) (enc : TypeId × Value → H) :
    ReturnsInHanded {} Try.checked os 13 .any (Rows.fnMeanBetweenSpec.pre6 enc Try.prog Try.f13 Rows.fnMeanBetweenRow.domain false) (Rows.fnMeanBetweenSpec.post enc Try.prog Try.f13 false true false false) := by
  refine returnsInHanded_of_change (C := Try.checked) Try.own started (by kernel_rfl) Try.func13
    (ChangeSpec.witness6 (enc := enc) (C := Try.checked) false ⟨#[], #[.slice none 0 0], []⟩ 8 (by kernel_rfl) (by kernel_rfl) (by kernel_rfl) (by kernel_rfl)) ?_
  intro W base args ds gs before hval0 hW hcnd _
  have hval : ∀ (j : Nat) t v, Try.f13.params[j]? = some t → args[j]? = some v → Value.okWide Try.prog W .any base t v := hval0
  have hW' := hW
  obtain ⟨p, q, hA0, hV, rfl, hfz, hnd⟩ := hW
  have hA : DataW.TrodAll enc Try.prog W 0 (fun _ => true) true Try.f13.params.toList args.toList ds p := hA0
  have hAk := hA
  rw [Try.params13] at hA hval
  obtain ⟨v0, d0, rfl, rfl, h0⟩ := trodAll_one hA
  obtain ⟨rfl, rfl⟩ := trodVars_none hV
  obtain ⟨A0, l0, c0, rfl, w0, s0⟩ := open_code Try.underlying39 Try.underlying5 (by kernel_rfl) (hval 0 _ _ rfl rfl) h0
  refine (law_mb A0 l0 c0 w0 W s0).mono fun e W' ⟨he, hbel⟩ => ?_
  subst he
  exact ⟨_, rfl, post_law Try.laidOut Try.underlying4 rfl (typesFit_of (by kernel_rfl)) hW' hAk (by simp) rfl ⟨rfl, rfl, rfl⟩ hbel⟩

theorem MeanBtw_facts : rowFacts Try.prog 13 Try.f13 Rows.fnMeanBetweenSpec Rows.fnMeanBetweenRow = true := by kernel_rfl

theorem MeanBtw_holds : Rows.FnMeanBetweenSaid :=
  OpenClaim.holds_of_wide 13 Try.f13 rfl rfl rfl rfl rfl rfl rfl ⟨rfl, rfl, rfl, rfl, rfl⟩ rfl rfl rfl rfl rfl (by kernel_rfl) Try.func13 (facts_here MeanBtw_facts)
    (of_decide_eq_true (by kernel_rfl)) (by unfold Func.isWrapper; first | (rw [if_pos (by decide +kernel)]; kernel_rfl) | (rw [if_neg (by decide +kernel)]; exact ⟨rfl, rfl⟩))
    (fun os started H enc _ => MeanBtw_lifted os started H enc)
#print axioms MeanBtw_holds
end Go.Proofs.Ytgenphbackbepaa
