/- The laws on one span: Holds, NegSpan, WidthOf answer true. -/
import Derived.Test.YtecmdbbppinamaaSpan2
namespace Go.Proofs.Ytecmdbbppinamaa
open Go.RowKit

set_option maxHeartbeats 400000 in
theorem law_holds (l h x : Nat) (w : World) :
    Calls Try.prog 4 #[.agg #[.float .f32 l, .float .f32 h], .float .f64 x] w fun e w' => e = .returned (.bool true) ∧ Below w.heap.size w w' := by
  go_enter Try.func4, Try.ntmps4
  go_wp2_with fail
  refine (toSpan_any _ _ _).mono ?_
  rintro e w1 ⟨rfl, hb⟩
  have H1 := hid (bthen (below_new _ _) hb)
  obtain ⟨z1, k1, k1'⟩ := (box2_new _ _ _ _).next hb
  clear hb
  go_wp2_with fail
  refine (holds_spec _ _ _ _).mono ?_
  rintro e w2 ⟨rfl, hb⟩
  have H2 := hid (bthen H1.out hb)
  obtain ⟨z2, k2, k2'⟩ := Box2.next ⟨z1, k1, k1'⟩ hb
  clear hb H1 z1 k1 k1'
  go_wp2_with fail
  refine (toSpan_any _ _ _).mono ?_
  rintro e w3 ⟨rfl, hb⟩
  have H3 := hid (bthen H2.out hb)
  clear hb H2 z2 k2 k2'
  go_wp2_with fail
  refine (holds_impl _ _ _ _).mono ?_
  rintro e w4 ⟨rfl, hb⟩
  have H4 := hid (bthen H3.out hb)
  clear hb H3
  go_wp2
  go_ret
  exact ⟨rfl, H4.out⟩

/-- what NegSpan returns -/
def negV (l h : Nat) : Value := if Fl.le .f32 l h then .tuple #[.agg #[.float .f32 (negB h), .float .f32 (negB l)], .bool true] else noSpan
/-- a span and a yes or no -/
theorem negV_form (l h : Nat) : ∃ a b c, negV l h = .tuple #[.agg #[.float .f32 a, .float .f32 b], .bool c] := by
  unfold negV; split
  · exact ⟨_, _, _, rfl⟩
  · exact ⟨_, _, _, rfl⟩
theorem negSpan_spec (l h : Nat) (w : World) : Calls Try.prog 27 #[.agg #[.float .f32 l, .float .f32 h]] w fun e w' => e = .returned (negV l h) ∧ Below w.heap.size w w' := by
  rcases Bool.eq_false_or_eq_true (Fl.le .f32 l h) with h0 | h0
  · unfold negV; rw [if_pos h0]; exact negSpan_spec_1 l h w h0
  · unfold negV; rw [if_neg (by rw [h0]; decide)]; exact negSpan_spec_0 l h w h0
theorem negSpan_impl (l h : Nat) (w : World) : Calls Try.prog 28 #[.agg #[.float .f32 l, .float .f32 h]] w fun e w' => e = .returned (negV l h) ∧ Below w.heap.size w w' := by
  rcases Bool.eq_false_or_eq_true (Fl.le .f32 l h) with h0 | h0
  · unfold negV; rw [if_pos h0]; exact negSpan_impl_1 l h w h0
  · unfold negV; rw [if_neg (by rw [h0]; decide)]; exact negSpan_impl_0 l h w h0

set_option maxHeartbeats 1000000 in
theorem law_negSpan (l h : Nat) (w : World) :
    Calls Try.prog 5 #[.agg #[.float .f32 l, .float .f32 h]] w fun e w' => e = .returned (.bool true) ∧ Below w.heap.size w w' := by
  obtain ⟨a, b, c, hv⟩ := negV_form l h
  have HV := hid hv
  clear hv
  go_enter Try.func5, Try.ntmps5
  go_wp2_with fail
  refine (toSpan_any _ _ _).mono ?_
  rintro e w1 ⟨rfl, hb⟩
  have H1 := hid (bthen (below_new _ _) hb)
  obtain ⟨z1, k1, k1'⟩ := (box2_new _ _ _ _).next hb
  clear hb
  go_wp2_with fail
  refine (negSpan_spec _ _ _).mono ?_
  rintro e w2 ⟨rfl, hb⟩
  rw [HV.out]
  have H2 := hid (bthen H1.out hb)
  obtain ⟨z2, k2, k2'⟩ := Box2.next ⟨z1, k1, k1'⟩ hb
  clear hb H1 z1 k1 k1'
  go_wp2_with fail
  refine (toSpan_any _ _ _).mono ?_
  rintro e w3 ⟨rfl, hb⟩
  have H3 := hid (bthen H2.out (bthen (below_new _ _) hb))
  have C3 := hid (Box2.next (box2_new w2 _ _ _) hb)
  clear hb H2 z2 k2 k2'
  go_wp2_with fail
  refine (negSpan_impl _ _ _).mono ?_
  rintro e w4 ⟨rfl, hb⟩
  rw [HV.out]
  have H4 := hid (bthen H3.out hb)
  obtain ⟨z4, k4, k4'⟩ := C3.out.next hb
  clear hb H3 C3
  go_wp2_with fail
  refine (eqSpan_any _ _ _).mono ?_
  rintro e w5 ⟨rfl, hb⟩
  have H5 := hid (bthen H4.out (bthen (below_new _ _) hb))
  clear hb H4
  go_wp2
  go_ret
  exact ⟨rfl, H5.out⟩

set_option maxHeartbeats 400000 in
theorem law_width (l h : Nat) (w : World) :
    Calls Try.prog 8 #[.agg #[.float .f32 l, .float .f32 h]] w fun e w' => e = .returned (.bool true) ∧ Below w.heap.size w w' := by
  go_enter Try.func8, Try.ntmps8
  go_wp2_with fail
  refine (toSpan_any _ _ _).mono ?_
  rintro e w1 ⟨rfl, hb⟩
  have H1 := hid (bthen (below_new _ _) hb)
  obtain ⟨z1, k1, k1'⟩ := (box2_new _ _ _ _).next hb
  clear hb
  go_wp2_with fail
  refine (width_spec _ _ _).mono ?_
  rintro e w2 ⟨r1, rfl, _, q1, hb⟩
  have Q1 := hid q1
  have H2 := hid (bthen H1.out hb)
  obtain ⟨z2, k2, k2'⟩ := Box2.next ⟨z1, k1, k1'⟩ hb
  clear hb H1 z1 k1 k1' q1
  go_wp2_with fail
  refine (toSpan_any _ _ _).mono ?_
  rintro e w3 ⟨rfl, hb⟩
  have H3 := hid (bthen H2.out hb)
  clear hb H2 z2 k2 k2'
  go_wp2_with fail
  refine (width_impl _ _ _).mono ?_
  rintro e w4 ⟨r2, rfl, _, q2, hb⟩
  have Q2 := hid q2
  have H4 := hid (bthen H3.out hb)
  clear hb H3 q2
  go_wp2_with fail
  refine (same_any _ _ _ (Q2.out.trans _ Q1.out.symm)).mono ?_
  rintro e w5 ⟨rfl, n, rfl⟩
  go_wp2
  go_ret
  exact ⟨rfl, below_drewN H4.out _⟩
end Go.Proofs.Ytecmdbbppinamaa
