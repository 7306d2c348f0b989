/- For every list of points and number the program's Interpolate returns what the reference's returns; no condition. -/
import Derived.Test.YthdmbbbkjomhhaaLift
import Derived.Test.YthdmbbbkjomhhaaHead
import Derived.Test.YthdmbbbkjomhhaaOpenP
import Derived.Test.YthdmbbbkjomhhaaInterLaw
namespace Go.Proofs.Ythdmbbbkjomhhaa
open Go.ChangeShapes Go.WideShapes Go.ChangeAt Go.RowKit

set_option maxRecDepth 100000 in
theorem Interpolate_lifted (os : Os) (started : os.Started) (H : Type) (enc : TypeId × Value → H) :
    ReturnsInHanded {} Try.checked os 10 .any (Rows.fnExactInterpolateSpec.pre6 enc Try.prog Try.f10 Rows.fnExactInterpolateRow.domain false) (Rows.fnExactInterpolateSpec.post enc Try.prog Try.f10 false true false false) := by
  refine returnsInHanded_of_change (C := Try.checked) Try.own started (by kernel_rfl) Try.func10
    (ChangeSpec.witness6 (enc := enc) (C := Try.checked) false ⟨#[], #[.slice none 0 0, .float .f32 0], []⟩ 8 (by kernel_rfl) (by kernel_rfl) (by kernel_rfl) (by kernel_rfl)) ?_
  intro W base args ds gs before hval0 hW hcnd _
  have hval : ∀ (j : Nat) t v, Try.f10.params[j]? = some t → args[j]? = some v → Value.okWide Try.prog W .any base t v := hval0
  have hW' := hW
  obtain ⟨p, q, hA0, hV, rfl, hfz, hnd⟩ := hW
  have hA : DataW.TrodAll enc Try.prog W 0 (fun _ => true) true Try.f10.params.toList args.toList ds p := hA0
  have hAk := hA
  rw [Try.params10] at hA hval
  obtain ⟨v0, v1, d0, d1, p0, p1, rfl, rfl, hps, h0, h1⟩ := trodAll_two hA
  obtain ⟨rfl, rfl⟩ := trodVars_none hV
  obtain ⟨A0, l0, c0, ps0, rfl, r0, w0, s0, q0⟩ := open_points Try.underlying37 Try.underlying96 (by kernel_rfl) rfl rfl (by kernel_rfl) (by kernel_rfl) Try.underlying25 Try.underlying25 (hval 0 _ _ rfl rfl) h0
  obtain ⟨x1, rfl, rfl, _, w1⟩ := open_float Try.underlying25 (hval 1 _ _ rfl rfl) h1
  refine (law_inter A0 l0 c0 ps0 r0 w0 x1 W s0 q0).mono fun e W' ⟨he, hbel⟩ => ?_
  subst he
  exact ⟨_, rfl, post_law Try.laidOut Try.underlying4 rfl (typesFit_of (by kernel_rfl)) hW' hAk (by simp) rfl ⟨rfl, rfl, rfl⟩ hbel⟩

theorem Interpolate_facts : rowFacts Try.prog 10 Try.f10 Rows.fnExactInterpolateSpec Rows.fnExactInterpolateRow = true := by kernel_rfl

theorem Interpolate_holds : Rows.FnExactInterpolateSaid :=
  OpenClaim.holds_of_wide 10 Try.f10 rfl rfl rfl rfl rfl rfl rfl ⟨rfl, rfl, rfl, rfl, rfl⟩ rfl rfl rfl rfl rfl (by kernel_rfl) Try.func10 (facts_here Interpolate_facts)
    (of_decide_eq_true (by kernel_rfl)) (by unfold Func.isWrapper; first | (rw [if_pos (by decide +kernel)]; kernel_rfl) | (rw [if_neg (by decide +kernel)]; exact ⟨rfl, rfl⟩))
    (fun os started H enc _ => Interpolate_lifted os started H enc)
#print axioms Interpolate_holds
end Go.Proofs.Ythdmbbbkjomhhaa
