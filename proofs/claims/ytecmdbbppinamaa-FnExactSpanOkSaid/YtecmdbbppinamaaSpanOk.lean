/- For every span the program's SpanOk returns what the reference's returns; no condition. -/
import Derived.Test.YtecmdbbppinamaaLift
import Derived.Test.YtecmdbbppinamaaHead
import Derived.Test.YtecmdbbppinamaaSpan
namespace Go.Proofs.Ytecmdbbppinamaa
open Go.ChangeShapes Go.WideShapes Go.ChangeAt Go.RowKit

theorem Try.cells_lspan : Try.prog.cellsOf 24 = 2 := by kernel_rfl

set_option maxRecDepth 100000 in
theorem spanOk_lifted (os : Os) (started : os.Started) (H : Type) (enc : TypeId × Value → H) :
    ReturnsInHanded {} Try.checked os 3 .any (Rows.fnExactSpanOkSpec.pre6 enc Try.prog Try.f3 Rows.fnExactSpanOkRow.domain false) (Rows.fnExactSpanOkSpec.post enc Try.prog Try.f3 false true false false) := by
  refine returnsInHanded_of_change (C := Try.checked) Try.own started (by kernel_rfl) Try.func3
    (ChangeSpec.witness6 (enc := enc) (C := Try.checked) false ⟨#[], #[.agg #[.float .f32 0, .float .f32 0]], []⟩ 8 (by kernel_rfl) (by kernel_rfl) (by kernel_rfl) (by kernel_rfl)) ?_
  intro W base args ds gs before hval0 hW hcnd _
  have hval : ∀ (j : Nat) t v, Try.f3.params[j]? = some t → args[j]? = some v → Value.okWide Try.prog W .any base t v := hval0
  have hW' := hW
  obtain ⟨p, q, hA0, hV, rfl, hfz, hnd⟩ := hW
  have hA : DataW.TrodAll enc Try.prog W 0 (fun _ => true) true Try.f3.params.toList args.toList ds p := hA0
  have hAk := hA
  rw [Try.params3] at hA hval
  obtain ⟨v0, d0, rfl, rfl, h0⟩ := trodAll_one hA
  obtain ⟨rfl, rfl⟩ := trodVars_none hV
  obtain ⟨u0, u1, y0, y1, n, rfl, rfl, rfl, t0, t1⟩ := Joins.open_agg2 Try.underlying24 (by kernel_rfl) Try.cells_lspan (hval 0 _ _ rfl rfl) h0
  obtain ⟨a, ea, rfl, _⟩ := trod_float Try.underlying22 t0
  obtain ⟨b, eb, rfl, _⟩ := trod_float Try.underlying22 t1
  cases ea; cases eb
  refine (law_spanOk a b W).mono fun e W' ⟨he, hbel⟩ => ?_
  subst he
  exact ⟨_, rfl, post_law Try.laidOut Try.underlying4 rfl (typesFit_of (by kernel_rfl)) hW' hAk (by simp) rfl ⟨rfl, rfl, rfl⟩ hbel⟩

theorem spanOk_facts : rowFacts Try.prog 3 Try.f3 Rows.fnExactSpanOkSpec Rows.fnExactSpanOkRow = true := by kernel_rfl

theorem SpanOk_holds : Rows.FnExactSpanOkSaid :=
  OpenClaim.holds_of_wide 3 Try.f3 rfl rfl rfl rfl rfl rfl rfl ⟨rfl, rfl, rfl, rfl, rfl⟩ rfl rfl rfl rfl rfl (by kernel_rfl) Try.func3 (facts_here spanOk_facts)
    (of_decide_eq_true (by kernel_rfl)) (by unfold Func.isWrapper; first | (rw [if_pos (by decide +kernel)]; kernel_rfl) | (rw [if_neg (by decide +kernel)]; exact ⟨rfl, rfl⟩))
    (fun os started H enc _ => spanOk_lifted os started H enc)
#print axioms SpanOk_holds
end Go.Proofs.Ytecmdbbppinamaa
