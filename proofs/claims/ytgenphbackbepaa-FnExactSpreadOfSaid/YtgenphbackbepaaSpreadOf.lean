/- For every list of singles the program's SpreadOf returns what the reference's returns; no condition. -/
import Derived.Test.YtgenphbackbepaaLift
import Derived.Test.YtgenphbackbepaaHead
import Derived.Test.YtgenphbackbepaaOpen
import Derived.Test.YtgenphbackbepaaSpreadLaw
namespace Go.Proofs.Ytgenphbackbepaa
open Go.ChangeShapes Go.WideShapes Go.ChangeAt Go.RowKit

set_option maxRecDepth 100000 in
theorem SpreadOf_lifted (os : Os) (started : os.Started) (H : Type) (enc : TypeId × Value → H) :
    ReturnsInHanded {} Try.checked os 11 .any (Rows.fnExactSpreadOfSpec.pre6 enc Try.prog Try.f11 Rows.fnExactSpreadOfRow.domain false) (Rows.fnExactSpreadOfSpec.post enc Try.prog Try.f11 false true false false) := by
  refine returnsInHanded_of_change (C := Try.checked) Try.own started (by kernel_rfl) Try.func11
    (ChangeSpec.witness6 (enc := enc) (C := Try.checked) false ⟨#[], #[.slice none 0 0], []⟩ 8 (by kernel_rfl) (by kernel_rfl) (by kernel_rfl) (by kernel_rfl)) ?_
  intro W base args ds gs before hval0 hW hcnd _
  have hval : ∀ (j : Nat) t v, Try.f11.params[j]? = some t → args[j]? = some v → Value.okWide Try.prog W .any base t v := hval0
  have hW' := hW
  obtain ⟨p, q, hA0, hV, rfl, hfz, hnd⟩ := hW
  have hA : DataW.TrodAll enc Try.prog W 0 (fun _ => true) true Try.f11.params.toList args.toList ds p := hA0
  have hAk := hA
  rw [Try.params11] at hA hval
  obtain ⟨v0, d0, rfl, rfl, h0⟩ := trodAll_one hA
  obtain ⟨rfl, rfl⟩ := trodVars_none hV
  obtain ⟨A0, l0, c0, xs0, rfl, r0, w0, s0, q0⟩ := open_singles Try.underlying22 Try.underlying23 (by kernel_rfl) (hval 0 _ _ rfl rfl) h0
  refine (law_spread A0 l0 c0 xs0 r0 w0 W s0 q0).mono fun e W' ⟨he, hbel⟩ => ?_
  subst he
  exact ⟨_, rfl, post_law Try.laidOut Try.underlying4 rfl (typesFit_of (by kernel_rfl)) hW' hAk (by simp) rfl ⟨rfl, rfl, rfl⟩ hbel⟩

theorem SpreadOf_facts : rowFacts Try.prog 11 Try.f11 Rows.fnExactSpreadOfSpec Rows.fnExactSpreadOfRow = true := by kernel_rfl

theorem SpreadOf_holds : Rows.FnExactSpreadOfSaid :=
  OpenClaim.holds_of_wide 11 Try.f11 rfl rfl rfl rfl rfl rfl rfl ⟨rfl, rfl, rfl, rfl, rfl⟩ rfl rfl rfl rfl rfl (by kernel_rfl) Try.func11 (facts_here SpreadOf_facts)
    (of_decide_eq_true (by kernel_rfl)) (by unfold Func.isWrapper; first | (rw [if_pos (by decide +kernel)]; kernel_rfl) | (rw [if_neg (by decide +kernel)]; exact ⟨rfl, rfl⟩))
    (fun os started H enc _ => SpreadOf_lifted os started H enc)
#print axioms SpreadOf_holds
end Go.Proofs.Ytgenphbackbepaa
