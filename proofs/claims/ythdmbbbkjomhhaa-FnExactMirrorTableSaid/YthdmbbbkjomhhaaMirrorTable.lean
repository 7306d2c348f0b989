/- For every list of points the program's MirrorTable returns what the reference's returns; no condition. -/
import Derived.Test.YthdmbbbkjomhhaaLift
import Derived.Test.YthdmbbbkjomhhaaHead
import Derived.Test.YthdmbbbkjomhhaaOpenP
import Derived.Test.YthdmbbbkjomhhaaMirrorLaw
namespace Go.Proofs.Ythdmbbbkjomhhaa
open Go.ChangeShapes Go.WideShapes Go.ChangeAt Go.RowKit

set_option maxRecDepth 100000 in
theorem MirrorTable_lifted (os : Os) (started : os.Started) (H : Type) (enc : TypeId × Value → H) :
    ReturnsInHanded {} Try.checked os 9 .any (Rows.fnExactMirrorTableSpec.pre6 enc Try.prog Try.f9 Rows.fnExactMirrorTableRow.domain false) (Rows.fnExactMirrorTableSpec.post enc Try.prog Try.f9 false true false false) := by
  refine returnsInHanded_of_change (C := Try.checked) Try.own started (by kernel_rfl) Try.func9
    (ChangeSpec.witness6 (enc := enc) (C := Try.checked) false ⟨#[], #[.slice none 0 0], []⟩ 8 (by kernel_rfl) (by kernel_rfl) (by kernel_rfl) (by kernel_rfl)) ?_
  intro W base args ds gs before hval0 hW hcnd _
  have hval : ∀ (j : Nat) t v, Try.f9.params[j]? = some t → args[j]? = some v → Value.okWide Try.prog W .any base t v := hval0
  have hW' := hW
  obtain ⟨p, q, hA0, hV, rfl, hfz, hnd⟩ := hW
  have hA : DataW.TrodAll enc Try.prog W 0 (fun _ => true) true Try.f9.params.toList args.toList ds p := hA0
  have hAk := hA
  rw [Try.params9] at hA hval
  obtain ⟨v0, d0, rfl, rfl, h0⟩ := trodAll_one hA
  obtain ⟨rfl, rfl⟩ := trodVars_none hV
  obtain ⟨A0, l0, c0, ps0, rfl, r0, w0, s0, q0⟩ := open_points Try.underlying37 Try.underlying96 (by kernel_rfl) rfl rfl (by kernel_rfl) (by kernel_rfl) Try.underlying25 Try.underlying25 (hval 0 _ _ rfl rfl) h0
  refine (law_mirror A0 l0 c0 ps0 r0 w0 W s0 q0).mono fun e W' ⟨he, hbel⟩ => ?_
  subst he
  exact ⟨_, rfl, post_law Try.laidOut Try.underlying4 rfl (typesFit_of (by kernel_rfl)) hW' hAk (by simp) rfl ⟨rfl, rfl, rfl⟩ hbel⟩

theorem MirrorTable_facts : rowFacts Try.prog 9 Try.f9 Rows.fnExactMirrorTableSpec Rows.fnExactMirrorTableRow = true := by kernel_rfl

theorem MirrorTable_holds : Rows.FnExactMirrorTableSaid :=
  OpenClaim.holds_of_wide 9 Try.f9 rfl rfl rfl rfl rfl rfl rfl ⟨rfl, rfl, rfl, rfl, rfl⟩ rfl rfl rfl rfl rfl (by kernel_rfl) Try.func9 (facts_here MirrorTable_facts)
    (of_decide_eq_true (by kernel_rfl)) (by unfold Func.isWrapper; first | (rw [if_pos (by decide +kernel)]; kernel_rfl) | (rw [if_neg (by decide +kernel)]; exact ⟨rfl, rfl⟩))
    (fun os started H enc _ => MirrorTable_lifted os started H enc)
#print axioms MirrorTable_holds
end Go.Proofs.Ythdmbbbkjomhhaa
