/- For every list of points and list of singles the program's Refine returns what the reference's returns; no condition. -/
import Derived.Test.YtbloipnpgncjiaaLift
import Derived.Test.YtbloipnpgncjiaaHead
import Derived.Test.YtbloipnpgncjiaaOpen
import Derived.Test.YtbloipnpgncjiaaOpenP
import Derived.Test.YtbloipnpgncjiaaRefLaw
namespace Go.Proofs.Ytbloipnpgncjiaa
open Go.ChangeShapes Go.WideShapes Go.ChangeAt Go.RowKit

set_option maxRecDepth 100000 in
theorem Refine_lifted (os : Os) (started : os.Started) (H : Type) (enc : TypeId × Value → H) :
    ReturnsInHanded {} Try.checked os 6 .any (Rows.fnExactRefineSpec.pre6 enc Try.prog Try.f6 Rows.fnExactRefineRow.domain false) (Rows.fnExactRefineSpec.post enc Try.prog Try.f6 false true false false) := by
  refine returnsInHanded_of_change (C := Try.checked) Try.own started (by kernel_rfl) Try.func6
    (ChangeSpec.witness6 (enc := enc) (C := Try.checked) false ⟨#[], #[.slice none 0 0, .slice none 0 0], []⟩ 8 (by kernel_rfl) (by kernel_rfl) (by kernel_rfl) (by kernel_rfl)) ?_
  intro W base args ds gs before hval0 hW hcnd _
  have hval : ∀ (j : Nat) t v, Try.f6.params[j]? = some t → args[j]? = some v → Value.okWide Try.prog W .any base t v := hval0
  have hW' := hW
  obtain ⟨p, q, hA0, hV, rfl, hfz, hnd⟩ := hW
  have hA : DataW.TrodAll enc Try.prog W 0 (fun _ => true) true Try.f6.params.toList args.toList ds p := hA0
  have hAk := hA
  rw [Try.params6] at hA hval
  obtain ⟨v0, v1, d0, d1, p0, p1, rfl, rfl, hps, h0, h1⟩ := trodAll_two hA
  obtain ⟨rfl, rfl⟩ := trodVars_none hV
  obtain ⟨A0, l0, c0, ps0, rfl, r0, w0, s0, q0⟩ := open_points Try.underlying37 Try.underlying96 (by kernel_rfl) rfl rfl (by kernel_rfl) (by kernel_rfl) Try.underlying25 Try.underlying25 (hval 0 _ _ rfl rfl) h0
  obtain ⟨A1, l1, c1, xs1, rfl, r1, w1, s1, q1⟩ := open_singles Try.underlying32 Try.underlying25 (by kernel_rfl) (hval 1 _ _ rfl rfl) h1
  refine (law_ref A0 l0 c0 ps0 r0 w0 A1 l1 c1 xs1 r1 w1 W s0 q0 s1 q1).mono fun e W' ⟨he, hbel⟩ => ?_
  subst he
  exact ⟨_, rfl, post_law Try.laidOut Try.underlying4 rfl (typesFit_of (by kernel_rfl)) hW' hAk (by simp) rfl ⟨rfl, rfl, rfl⟩ hbel⟩

theorem Refine_facts : rowFacts Try.prog 6 Try.f6 Rows.fnExactRefineSpec Rows.fnExactRefineRow = true := by kernel_rfl

theorem Refine_holds : Rows.FnExactRefineSaid :=
  OpenClaim.holds_of_wide 6 Try.f6 rfl rfl rfl rfl rfl rfl rfl ⟨rfl, rfl, rfl, rfl, rfl⟩ rfl rfl rfl rfl rfl (by kernel_rfl) Try.func6 (facts_here Refine_facts)
    (of_decide_eq_true (by kernel_rfl)) (by unfold Func.isWrapper; first | (rw [if_pos (by decide +kernel)]; kernel_rfl) | (rw [if_neg (by decide +kernel)]; exact ⟨rfl, rfl⟩))
    (fun os started H enc _ => Refine_lifted os started H enc)
#print axioms Refine_holds
end Go.Proofs.Ytbloipnpgncjiaa
