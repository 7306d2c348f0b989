/- For every list of singles the program's MiddleOf returns what the reference's returns; no condition. -/
import Derived.Test.YtgenphbackbepaaLift
import Derived.Test.YtgenphbackbepaaHead
import Derived.Test.YtgenphbackbepaaOpen
import Derived.Test.YtgenphbackbepaaMiddleLaw
namespace Go.Proofs.Ytgenphbackbepaa
open Go.ChangeShapes Go.WideShapes Go.ChangeAt Go.RowKit

set_option maxRecDepth 100000 in
theorem MiddleOf_lifted (os : Os) (started : os.Started) (H : Type) (enc : TypeId × Value → H) :
    ReturnsInHanded {} Try.checked os 10 .any (Rows.fnExactMiddleOfSpec.pre6 enc Try.prog Try.f10 Rows.fnExactMiddleOfRow.domain false) (Rows.fnExactMiddleOfSpec.post enc Try.prog Try.f10 false true false false) := by
  refine returnsInHanded_of_change (C := Try.checked) Try.own started (by kernel_rfl) Try.func10
    (ChangeSpec.witness6 (enc := enc) (C := Try.checked) false ⟨#[], #[.slice none 0 0], []⟩ 8 (by kernel_rfl) (by kernel_rfl) (by kernel_rfl) (by kernel_rfl)) ?_
  intro W base args ds gs before hval0 hW hcnd _
  have hval : ∀ (j : Nat) t v, Try.f10.params[j]? = some t → args[j]? = some v → Value.okWide Try.prog W .any base t v := hval0
  have hW' := hW
  obtain ⟨p, q, hA0, hV, rfl, hfz, hnd⟩ := hW
  have hA : DataW.TrodAll enc Try.prog W 0 (fun _ => true) true Try.f10.params.toList args.toList ds p := hA0
  have hAk := hA
  rw [Try.params10] at hA hval
  obtain ⟨v0, d0, rfl, rfl, h0⟩ := trodAll_one hA
  obtain ⟨rfl, rfl⟩ := trodVars_none hV
  obtain ⟨A0, l0, c0, xs0, rfl, r0, w0, s0, q0⟩ := open_singles Try.underlying22 Try.underlying23 (by kernel_rfl) (hval 0 _ _ rfl rfl) h0
  refine (law_middle A0 l0 c0 xs0 r0 w0 W s0 q0).mono fun e W' ⟨he, hbel⟩ => ?_
  subst he
  exact ⟨_, rfl, post_law Try.laidOut Try.underlying4 rfl (typesFit_of (by kernel_rfl)) hW' hAk (by simp) rfl ⟨rfl, rfl, rfl⟩ hbel⟩

theorem MiddleOf_facts : rowFacts Try.prog 10 Try.f10 Rows.fnExactMiddleOfSpec Rows.fnExactMiddleOfRow = true := by kernel_rfl

theorem MiddleOf_holds : Rows.FnExactMiddleOfSaid :=
  OpenClaim.holds_of_wide 10 Try.f10 rfl rfl rfl rfl rfl rfl rfl ⟨rfl, rfl, rfl, rfl, rfl⟩ rfl rfl rfl rfl rfl (by kernel_rfl) Try.func10 (facts_here MiddleOf_facts)
    (of_decide_eq_true (by kernel_rfl)) (by unfold Func.isWrapper; first | (rw [if_pos (by decide +kernel)]; kernel_rfl) | (rw [if_neg (by decide +kernel)]; exact ⟨rfl, rfl⟩))
    (fun os started H enc _ => MiddleOf_lifted os started H enc)
#print axioms MiddleOf_holds
end Go.Proofs.Ytgenphbackbepaa
