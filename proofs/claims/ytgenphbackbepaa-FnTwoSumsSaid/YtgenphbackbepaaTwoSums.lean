/- For every code the sum by halves and the sum in order of the drawn list differ by less than a million-millionth of the sum of the amounts; no condition. -/
import Derived.Test.YtgenphbackbepaaLift
import Derived.Test.YtgenphbackbepaaHead
import Derived.Test.YtgenphbackbepaaOpenB
import Derived.Test.YtgenphbackbepaaTwoLaw
namespace Go.Proofs.Ytgenphbackbepaa
open Go.ChangeShapes Go.WideShapes Go.ChangeAt Go.RowKit

set_option maxRecDepth 100000 in
theorem TwoSums_lifted (os : Os) (started : os.Started) (H : Type) (enc : TypeId × Value → H) :
    ReturnsInHanded {} Try.checked os 9 .any (Rows.fnTwoSumsSpec.pre6 enc Try.prog Try.f9 Rows.fnTwoSumsRow.domain false) (Rows.fnTwoSumsSpec.post enc Try.prog Try.f9 false true false false) := by
  refine returnsInHanded_of_change (C := Try.checked) Try.own started (by kernel_rfl) Try.func9
    (ChangeSpec.witness6 (enc := enc) (C := Try.checked) false ⟨#[], #[.slice none 0 0], []⟩ 8 (by kernel_rfl) (by kernel_rfl) (by kernel_rfl) (by kernel_rfl)) ?_
  intro W base args ds gs before hval0 hW hcnd _
  have hval : ∀ (j : Nat) t v, Try.f9.params[j]? = some t → args[j]? = some v → Value.okWide Try.prog W .any base t v := hval0
  have hW' := hW
  obtain ⟨p, q, hA0, hV, rfl, hfz, hnd⟩ := hW
  have hA : DataW.TrodAll enc Try.prog W 0 (fun _ => true) true Try.f9.params.toList args.toList ds p := hA0
  have hAk := hA
  rw [Try.params9] at hA hval
  obtain ⟨v0, d0, rfl, rfl, h0⟩ := trodAll_one hA
  obtain ⟨rfl, rfl⟩ := trodVars_none hV
  obtain ⟨A0, l0, c0, rfl, w0, s0⟩ := open_code Try.underlying39 Try.underlying5 (by kernel_rfl) (hval 0 _ _ rfl rfl) h0
  refine (law_two A0 l0 c0 w0 W s0).mono fun e W' ⟨he, hbel⟩ => ?_
  subst he
  exact ⟨_, rfl, post_law Try.laidOut Try.underlying4 rfl (typesFit_of (by kernel_rfl)) hW' hAk (by simp) rfl ⟨rfl, rfl, rfl⟩ hbel⟩

theorem TwoSums_facts : rowFacts Try.prog 9 Try.f9 Rows.fnTwoSumsSpec Rows.fnTwoSumsRow = true := by kernel_rfl

theorem TwoSums_holds : Rows.FnTwoSumsSaid :=
  OpenClaim.holds_of_wide 9 Try.f9 rfl rfl rfl rfl rfl rfl rfl ⟨rfl, rfl, rfl, rfl, rfl⟩ rfl rfl rfl rfl rfl (by kernel_rfl) Try.func9 (facts_here TwoSums_facts)
    (of_decide_eq_true (by kernel_rfl)) (by unfold Func.isWrapper; first | (rw [if_pos (by decide +kernel)]; kernel_rfl) | (rw [if_neg (by decide +kernel)]; exact ⟨rfl, rfl⟩))
    (fun os started H enc _ => TwoSums_lifted os started H enc)
#print axioms TwoSums_holds
end Go.Proofs.Ytgenphbackbepaa
