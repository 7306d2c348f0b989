/- For every code the quotients of the drawn numbers and ones are the numbers, up to the first that is not finite; no condition. -/
import Derived.Test.YtbloipnpgncjiaaLift
import Derived.Test.YtbloipnpgncjiaaHead
import Derived.Test.YtbloipnpgncjiaaOpenB
import Derived.Test.YtbloipnpgncjiaaSerLaw
namespace Go.Proofs.Ytbloipnpgncjiaa
open Go.ChangeShapes Go.WideShapes Go.ChangeAt Go.RowKit

set_option maxRecDepth 100000 in
theorem Series_lifted (os : Os) (started : os.Started) (H : Type) (enc : TypeId × Value → H) :
    ReturnsInHanded {} Try.checked os 12 .any (Rows.fnSeriesSpec.pre6 enc Try.prog Try.f12 Rows.fnSeriesRow.domain false) (Rows.fnSeriesSpec.post enc Try.prog Try.f12 false true false false) := by
  refine returnsInHanded_of_change (C := Try.checked) Try.own started (by kernel_rfl) Try.func12
    (ChangeSpec.witness6 (enc := enc) (C := Try.checked) false ⟨#[], #[.slice none 0 0], []⟩ 8 (by kernel_rfl) (by kernel_rfl) (by kernel_rfl) (by kernel_rfl)) ?_
  intro W base args ds gs before hval0 hW hcnd _
  have hval : ∀ (j : Nat) t v, Try.f12.params[j]? = some t → args[j]? = some v → Value.okWide Try.prog W .any base t v := hval0
  have hW' := hW
  obtain ⟨p, q, hA0, hV, rfl, hfz, hnd⟩ := hW
  have hA : DataW.TrodAll enc Try.prog W 0 (fun _ => true) true Try.f12.params.toList args.toList ds p := hA0
  have hAk := hA
  rw [Try.params12] at hA hval
  obtain ⟨v0, d0, rfl, rfl, h0⟩ := trodAll_one hA
  obtain ⟨rfl, rfl⟩ := trodVars_none hV
  obtain ⟨A0, l0, c0, rfl, w0, s0⟩ := open_code Try.underlying22 Try.underlying5 (by kernel_rfl) (hval 0 _ _ rfl rfl) h0
  refine (law_ser A0 l0 c0 w0 W s0).mono fun e W' ⟨he, hbel⟩ => ?_
  subst he
  exact ⟨_, rfl, post_law Try.laidOut Try.underlying4 rfl (typesFit_of (by kernel_rfl)) hW' hAk (by simp) rfl ⟨rfl, rfl, rfl⟩ hbel⟩

theorem Series_facts : rowFacts Try.prog 12 Try.f12 Rows.fnSeriesSpec Rows.fnSeriesRow = true := by kernel_rfl

theorem Series_holds : Rows.FnSeriesSaid :=
  OpenClaim.holds_of_wide 12 Try.f12 rfl rfl rfl rfl rfl rfl rfl ⟨rfl, rfl, rfl, rfl, rfl⟩ rfl rfl rfl rfl rfl (by kernel_rfl) Try.func12 (facts_here Series_facts)
    (of_decide_eq_true (by kernel_rfl)) (by unfold Func.isWrapper; first | (rw [if_pos (by decide +kernel)]; kernel_rfl) | (rw [if_neg (by decide +kernel)]; exact ⟨rfl, rfl⟩))
    (fun os started H enc _ => Series_lifted os started H enc)
#print axioms Series_holds
end Go.Proofs.Ytbloipnpgncjiaa
