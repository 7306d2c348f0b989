/- For all two spans the program's MeetSpans returns what the reference's returns; no condition. -/
import Derived.Test.YtecmdbbppinamaaLift
import Derived.Test.YtecmdbbppinamaaHead
import Derived.Test.YtecmdbbppinamaaSpanLaws2
namespace Go.Proofs.Ytecmdbbppinamaa
open Go.ChangeShapes Go.WideShapes Go.ChangeAt Go.RowKit

set_option maxRecDepth 100000 in
theorem MeetSpans_lifted (os : Os) (started : os.Started) (H : Type) (enc : TypeId × Value → H) :
    ReturnsInHanded {} Try.checked os 9 .any (Rows.fnExactMeetSpansSpec.pre6 enc Try.prog Try.f9 Rows.fnExactMeetSpansRow.domain false) (Rows.fnExactMeetSpansSpec.post enc Try.prog Try.f9 false true false false) := by
  refine returnsInHanded_of_change (C := Try.checked) Try.own started (by kernel_rfl) Try.func9
    (ChangeSpec.witness6 (enc := enc) (C := Try.checked) false ⟨#[], #[.agg #[.float .f32 0, .float .f32 0], .agg #[.float .f32 0, .float .f32 0]], []⟩ 8 (by kernel_rfl) (by kernel_rfl) (by kernel_rfl) (by kernel_rfl)) ?_
  intro W base args ds gs before hval0 hW hcnd _
  have hval : ∀ (j : Nat) t v, Try.f9.params[j]? = some t → args[j]? = some v → Value.okWide Try.prog W .any base t v := hval0
  have hW' := hW
  obtain ⟨p, q, hA0, hV, rfl, hfz, hnd⟩ := hW
  have hA : DataW.TrodAll enc Try.prog W 0 (fun _ => true) true Try.f9.params.toList args.toList ds p := hA0
  have hAk := hA
  rw [Try.params9] at hA hval
  obtain ⟨v0, v1, d0, d1, p0, p1, rfl, rfl, hps, h0, h1⟩ := trodAll_two hA
  obtain ⟨rfl, rfl⟩ := trodVars_none hV
  obtain ⟨u0a, u0b, y0a, y0b, n0, rfl, rfl, _, t0a, t0b⟩ := Joins.open_agg2 Try.underlying24 (by kernel_rfl) (show Try.prog.cellsOf 24 = 2 by kernel_rfl) (hval 0 _ _ rfl rfl) h0
  obtain ⟨a0, e0a, rfl, _⟩ := trod_float Try.underlying22 t0a
  obtain ⟨b0, e0b, rfl, _⟩ := trod_float Try.underlying22 t0b
  cases e0a; cases e0b
  obtain ⟨u1a, u1b, y1a, y1b, n1, rfl, rfl, _, t1a, t1b⟩ := Joins.open_agg2 Try.underlying24 (by kernel_rfl) (show Try.prog.cellsOf 24 = 2 by kernel_rfl) (hval 1 _ _ rfl rfl) h1
  obtain ⟨a1, e1a, rfl, _⟩ := trod_float Try.underlying22 t1a
  obtain ⟨b1, e1b, rfl, _⟩ := trod_float Try.underlying22 t1b
  cases e1a; cases e1b
  refine (law_meet a0 b0 a1 b1 W).mono fun e W' ⟨he, hbel⟩ => ?_
  subst he
  exact ⟨_, rfl, post_law Try.laidOut Try.underlying4 rfl (typesFit_of (by kernel_rfl)) hW' hAk (by simp) rfl ⟨rfl, rfl, rfl⟩ hbel⟩

theorem MeetSpans_facts : rowFacts Try.prog 9 Try.f9 Rows.fnExactMeetSpansSpec Rows.fnExactMeetSpansRow = true := by kernel_rfl

theorem MeetSpans_holds : Rows.FnExactMeetSpansSaid :=
  OpenClaim.holds_of_wide 9 Try.f9 rfl rfl rfl rfl rfl rfl rfl ⟨rfl, rfl, rfl, rfl, rfl⟩ rfl rfl rfl rfl rfl (by kernel_rfl) Try.func9 (facts_here MeetSpans_facts)
    (of_decide_eq_true (by kernel_rfl)) (by unfold Func.isWrapper; first | (rw [if_pos (by decide +kernel)]; kernel_rfl) | (rw [if_neg (by decide +kernel)]; exact ⟨rfl, rfl⟩))
    (fun os started H enc _ => MeetSpans_lifted os started H enc)
#print axioms MeetSpans_holds
end Go.Proofs.Ytecmdbbppinamaa
