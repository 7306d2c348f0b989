/- The contracts of the functions on spans: Holds, NegSpan, WidthOf, HullSpans, MeetSpans, of the program and of the reference alike, and of the law's comparison. -/
import Derived.Test.YtecmdbbppinamaaSpan
namespace Go.Proofs.Ytecmdbbppinamaa
open Go.RowKit

def holdsB (l h x : Nat) : Bool := Fl.le .f32 l h && Fl.ge .f64 x (Fl.wid l) && Fl.le .f64 x (Fl.wid h)
def boundB (l h : Nat) : Bool := Fl.le .f32 l h && fin32 l && fin32 h
def widthN (l h : Nat) : Nat := if boundB l h then Fl.arith .f64 .sub (Fl.wid h) (Fl.wid l) else 13830554455654793216
abbrev spanV (l h : Nat) : Value := .agg #[.float .f32 l, .float .f32 h]
abbrev noSpan : Value := .tuple #[.agg #[.float .f32 0, .float .f32 0], .bool false]

set_option maxHeartbeats 400000 in
theorem holds_impl (l h x : Nat) (w : World) :
    Calls Try.prog 26 #[.agg #[.float .f32 l, .float .f32 h], .float .f64 x] w fun e w' => e = .returned (.bool (holdsB l h x)) ∧ Below w.heap.size w w' := by
  rcases Bool.eq_false_or_eq_true (Fl.le .f32 l h) with h0 | h0
  · go_enter Try.func26, Try.ntmps26
    go_wp2_with fail
    refine (spanOk_impl _ _ _).mono ?_
    rintro e w1 ⟨rfl, hb⟩
    rw [h0]
    have H0 := hid h0
    have H1 := hid (bthen (below_new _ _) hb)
    obtain ⟨z1, k1, k1'⟩ := (box2_new _ _ _ _).next hb
    clear hb h0
    go_wp2
    refine upon_widen some_f32 Try.underlying29 ?_
    intro r n hr
    have E1 := hid (Fl.ge_eqv (Fl.Eqv.refl _ x) hr.w).symm
    clear hr
    rcases Bool.eq_false_or_eq_true (FloatKind.f64.format.order x r == some .gt || FloatKind.f64.format.order x r == some .eq) with hg | hg
    · have G1 := hid (show Fl.ge .f64 x r = true from hg)
      go_wp2
      refine upon_widen some_f32 Try.underlying29 ?_
      intro r2 n2 hr2
      have E2 := hid (Fl.le_eqv (Fl.Eqv.refl _ x) hr2.w).symm
      clear hr2
      go_wp2
      go_ret
      exact ⟨by unfold holdsB; rw [H0.out, E1.out, G1.out, E2.out]; rfl, below_drewN H1.out _⟩
    · have G1 := hid (show Fl.ge .f64 x r = false from hg)
      go_wp2
      go_ret
      exact ⟨by unfold holdsB; rw [H0.out, E1.out, G1.out]; rfl, below_drewN H1.out _⟩
  · go_enter Try.func26, Try.ntmps26
    go_wp2_with fail
    refine (spanOk_impl _ _ _).mono ?_
    rintro e w1 ⟨rfl, hb⟩
    rw [h0]
    have H0 := hid h0
    clear h0
    go_wp2
    go_ret
    exact ⟨by unfold holdsB; rw [H0.out]; rfl, bthen (below_new _ _) hb⟩

set_option maxHeartbeats 400000 in
theorem negSpan_impl_0 (l h : Nat) (w : World) (h0 : Fl.le .f32 l h = false) :
    Calls Try.prog 28 #[.agg #[.float .f32 l, .float .f32 h]] w fun e w' => e = .returned noSpan ∧ Below w.heap.size w w' := by
  go_enter Try.func28, Try.ntmps28
  go_wp2_with fail
  refine (spanOk_impl _ _ _).mono ?_
  rintro e w1 ⟨rfl, hb⟩
  rw [h0]
  obtain ⟨hc, hf⟩ := bcell hb
  go_wp2
  exact bodyPost_ret (v := noSpan) (by simp [results, Try.results28, go_sem, hc]) rfl ⟨rfl, ((bthen (below2 _ _ _) hb).setCell (by simp) _).setCell (by simp) _⟩
set_option maxHeartbeats 400000 in
theorem negSpan_impl_1 (l h : Nat) (w : World) (h0 : Fl.le .f32 l h = true) :
    Calls Try.prog 28 #[.agg #[.float .f32 l, .float .f32 h]] w fun e w' => e = .returned (.tuple #[.agg #[.float .f32 (negB h), .float .f32 (negB l)], .bool true]) ∧ Below w.heap.size w w' := by
  go_enter Try.func28, Try.ntmps28
  go_wp2_with fail
  refine (spanOk_impl _ _ _).mono ?_
  rintro e w1 ⟨rfl, hb⟩
  rw [h0]
  obtain ⟨hc, hf⟩ := bcell hb
  go_wp2
  exact bodyPost_ret (v := .tuple #[.agg #[.float .f32 (negB h), .float .f32 (negB l)], .bool true]) (by simp [results, Try.results28, go_sem, hc, negB]) rfl ⟨rfl, ((bthen (below2 _ _ _) hb).setCell (by simp) _).setCell (by simp) _⟩

set_option maxHeartbeats 400000 in
theorem bounded_impl (l h : Nat) (w : World) :
    Calls Try.prog 62 #[.agg #[.float .f32 l, .float .f32 h]] w fun e w' => e = .returned (.bool (boundB l h)) ∧ Below w.heap.size w w' := by
  rcases Bool.eq_false_or_eq_true (Fl.le .f32 l h) with h0 | h0
  · go_enter Try.func62, Try.ntmps62
    go_wp2_with fail
    refine (spanOk_impl _ _ _).mono ?_
    rintro e w1 ⟨rfl, hb⟩
    rw [h0]
    have H0 := hid h0
    have H1 := hid (bthen (below_new _ _) hb)
    obtain ⟨z1, k1, k1'⟩ := (box2_new _ _ _ _).next hb
    clear hb h0
    go_wp2_with fail
    refine (finiteSingle_any _ _).mono ?_
    rintro e w' ⟨rfl, n1, rfl⟩
    rcases Bool.eq_false_or_eq_true (fin32 l) with h1 | h1
    · rw [h1]
      have H2 := hid h1
      clear h1
      go_wp2_with fail
      refine (finiteSingle_any _ _).mono ?_
      rintro e w' ⟨rfl, n2, rfl⟩
      go_wp2
      go_ret
      exact ⟨by unfold boundB; rw [H0.out, H2.out]; rfl, below_drewN H1.out _⟩
    · rw [h1]
      have H2 := hid h1
      clear h1
      go_wp2
      go_ret
      exact ⟨by unfold boundB; rw [H0.out, H2.out]; rfl, below_drewN H1.out _⟩
  · go_enter Try.func62, Try.ntmps62
    go_wp2_with fail
    refine (spanOk_impl _ _ _).mono ?_
    rintro e w1 ⟨rfl, hb⟩
    rw [h0]
    have H0 := hid h0
    clear h0
    go_wp2
    go_ret
    exact ⟨by unfold boundB; rw [H0.out]; rfl, bthen (below_new _ _) hb⟩

set_option maxHeartbeats 400000 in
theorem width_impl (l h : Nat) (w : World) :
    Calls Try.prog 37 #[.agg #[.float .f32 l, .float .f32 h]] w (RetF .f64 (widthN l h) w) := by
  rcases Bool.eq_false_or_eq_true (boundB l h) with h0 | h0
  · go_enter Try.func37, Try.ntmps37
    go_wp2_with fail
    refine (bounded_impl _ _ _).mono ?_
    rintro e w1 ⟨rfl, hb⟩
    rw [h0]
    have H0 := hid h0
    have H1 := hid (bthen (below_new _ _) hb)
    obtain ⟨z1, k1, k1'⟩ := (box2_new _ _ _ _).next hb
    clear hb h0
    go_wp2
    refine upon_widen some_f32 Try.underlying29 ?_
    intro r1 n1 hr1
    have E1 := hid hr1.w
    clear hr1
    go_wp2
    refine upon_widen some_f32 Try.underlying29 ?_
    intro r2 n2 hr2
    have E2 := hid hr2.w
    clear hr2
    go_wp2
    refine upon_arith (.inr (.inl rfl)) ?_
    intro r3 n3 hr3
    have E3 := hid hr3
    clear hr3
    go_wp2
    go_ret
    exact ⟨r3, rfl, E3.out.1, by unfold widthN; rw [H0.out]; exact E3.out.arith _ E1.out E2.out, below_drewN H1.out _⟩
  · go_enter Try.func37, Try.ntmps37
    go_wp2_with fail
    refine (bounded_impl _ _ _).mono ?_
    rintro e w1 ⟨rfl, hb⟩
    rw [h0]
    have H0 := hid h0
    clear h0
    go_wp2
    go_ret
    exact ⟨_, rfl, by show (13830554455654793216 : Nat) < 2 ^ 64; omega, by unfold widthN; rw [H0.out]; exact Fl.Eqv.refl _ _, bthen (below_new _ _) hb⟩

set_option maxHeartbeats 400000 in
theorem holds_spec (l h x : Nat) (w : World) :
    Calls Try.prog 25 #[.agg #[.float .f32 l, .float .f32 h], .float .f64 x] w fun e w' => e = .returned (.bool (holdsB l h x)) ∧ Below w.heap.size w w' := by
  rcases Bool.eq_false_or_eq_true (Fl.le .f32 l h) with h0 | h0
  · go_enter Try.func25, Try.ntmps25
    go_wp2_with fail
    refine (spanOk_spec _ _ _).mono ?_
    rintro e w1 ⟨rfl, hb⟩
    rw [h0]
    have H0 := hid h0
    have H1 := hid (bthen (below_new _ _) hb)
    obtain ⟨z1, k1, k1'⟩ := (box2_new _ _ _ _).next hb
    clear hb h0
    go_wp2
    refine upon_widen some_f32 Try.underlying29 ?_
    intro r n hr
    have E1 := hid (Fl.ge_eqv (Fl.Eqv.refl _ x) hr.w).symm
    clear hr
    rcases Bool.eq_false_or_eq_true (FloatKind.f64.format.order x r == some .gt || FloatKind.f64.format.order x r == some .eq) with hg | hg
    · have G1 := hid (show Fl.ge .f64 x r = true from hg)
      go_wp2
      refine upon_widen some_f32 Try.underlying29 ?_
      intro r2 n2 hr2
      have E2 := hid (Fl.le_eqv (Fl.Eqv.refl _ x) hr2.w).symm
      clear hr2
      go_wp2
      go_ret
      exact ⟨by unfold holdsB; rw [H0.out, E1.out, G1.out, E2.out]; rfl, below_drewN H1.out _⟩
    · have G1 := hid (show Fl.ge .f64 x r = false from hg)
      go_wp2
      go_ret
      exact ⟨by unfold holdsB; rw [H0.out, E1.out, G1.out]; rfl, below_drewN H1.out _⟩
  · go_enter Try.func25, Try.ntmps25
    go_wp2_with fail
    refine (spanOk_spec _ _ _).mono ?_
    rintro e w1 ⟨rfl, hb⟩
    rw [h0]
    have H0 := hid h0
    clear h0
    go_wp2
    go_ret
    exact ⟨by unfold holdsB; rw [H0.out]; rfl, bthen (below_new _ _) hb⟩

set_option maxHeartbeats 400000 in
theorem negSpan_spec_0 (l h : Nat) (w : World) (h0 : Fl.le .f32 l h = false) :
    Calls Try.prog 27 #[.agg #[.float .f32 l, .float .f32 h]] w fun e w' => e = .returned noSpan ∧ Below w.heap.size w w' := by
  go_enter Try.func27, Try.ntmps27
  go_wp2_with fail
  refine (spanOk_spec _ _ _).mono ?_
  rintro e w1 ⟨rfl, hb⟩
  rw [h0]
  obtain ⟨hc, hf⟩ := bcell hb
  go_wp2
  exact bodyPost_ret (v := noSpan) (by simp [results, Try.results27, go_sem, hc]) rfl ⟨rfl, ((bthen (below2 _ _ _) hb).setCell (by simp) _).setCell (by simp) _⟩
set_option maxHeartbeats 400000 in
theorem negSpan_spec_1 (l h : Nat) (w : World) (h0 : Fl.le .f32 l h = true) :
    Calls Try.prog 27 #[.agg #[.float .f32 l, .float .f32 h]] w fun e w' => e = .returned (.tuple #[.agg #[.float .f32 (negB h), .float .f32 (negB l)], .bool true]) ∧ Below w.heap.size w w' := by
  go_enter Try.func27, Try.ntmps27
  go_wp2_with fail
  refine (spanOk_spec _ _ _).mono ?_
  rintro e w1 ⟨rfl, hb⟩
  rw [h0]
  obtain ⟨hc, hf⟩ := bcell hb
  go_wp2
  exact bodyPost_ret (v := .tuple #[.agg #[.float .f32 (negB h), .float .f32 (negB l)], .bool true]) (by simp [results, Try.results27, go_sem, hc, negB]) rfl ⟨rfl, ((bthen (below2 _ _ _) hb).setCell (by simp) _).setCell (by simp) _⟩

set_option maxHeartbeats 400000 in
theorem bounded_spec (l h : Nat) (w : World) :
    Calls Try.prog 61 #[.agg #[.float .f32 l, .float .f32 h]] w fun e w' => e = .returned (.bool (boundB l h)) ∧ Below w.heap.size w w' := by
  rcases Bool.eq_false_or_eq_true (Fl.le .f32 l h) with h0 | h0
  · go_enter Try.func61, Try.ntmps61
    go_wp2_with fail
    refine (spanOk_spec _ _ _).mono ?_
    rintro e w1 ⟨rfl, hb⟩
    rw [h0]
    have H0 := hid h0
    have H1 := hid (bthen (below_new _ _) hb)
    obtain ⟨z1, k1, k1'⟩ := (box2_new _ _ _ _).next hb
    clear hb h0
    go_wp2_with fail
    refine upon_widen some_f32 Try.underlying29 ?_
    intro r1 m1 hr1
    have E1 := hid hr1.fin32
    clear hr1
    go_wp2_with fail
    refine (fine_any _ _).mono ?_
    rintro e w' ⟨rfl, n1, rfl⟩
    rw [show finB r1 = fin32 l from E1.out]
    rcases Bool.eq_false_or_eq_true (fin32 l) with h1 | h1
    · rw [h1]
      have H2 := hid h1
      clear h1
      go_wp2_with fail
      refine upon_widen some_f32 Try.underlying29 ?_
      intro r2 m2 hr2
      have E2 := hid hr2.fin32
      clear hr2
      go_wp2_with fail
      refine (fine_any _ _).mono ?_
      rintro e w' ⟨rfl, n2, rfl⟩
      rw [show finB r2 = fin32 h from E2.out]
      go_wp2
      go_ret
      exact ⟨by unfold boundB; rw [H0.out, H2.out]; rfl, below_drewN H1.out _⟩
    · rw [h1]
      have H2 := hid h1
      clear h1
      go_wp2
      go_ret
      exact ⟨by unfold boundB; rw [H0.out, H2.out]; rfl, below_drewN H1.out _⟩
  · go_enter Try.func61, Try.ntmps61
    go_wp2_with fail
    refine (spanOk_spec _ _ _).mono ?_
    rintro e w1 ⟨rfl, hb⟩
    rw [h0]
    have H0 := hid h0
    clear h0
    go_wp2
    go_ret
    exact ⟨by unfold boundB; rw [H0.out]; rfl, bthen (below_new _ _) hb⟩

set_option maxHeartbeats 400000 in
theorem width_spec (l h : Nat) (w : World) :
    Calls Try.prog 36 #[.agg #[.float .f32 l, .float .f32 h]] w (RetF .f64 (widthN l h) w) := by
  rcases Bool.eq_false_or_eq_true (boundB l h) with h0 | h0
  · go_enter Try.func36, Try.ntmps36
    go_wp2_with fail
    refine (bounded_spec _ _ _).mono ?_
    rintro e w1 ⟨rfl, hb⟩
    rw [h0]
    have H0 := hid h0
    have H1 := hid (bthen (below_new _ _) hb)
    obtain ⟨z1, k1, k1'⟩ := (box2_new _ _ _ _).next hb
    clear hb h0
    go_wp2
    refine upon_widen some_f32 Try.underlying29 ?_
    intro r1 n1 hr1
    have E1 := hid hr1.w
    clear hr1
    go_wp2
    refine upon_widen some_f32 Try.underlying29 ?_
    intro r2 n2 hr2
    have E2 := hid hr2.w
    clear hr2
    go_wp2
    refine upon_arith (.inr (.inl rfl)) ?_
    intro r3 n3 hr3
    have E3 := hid hr3
    clear hr3
    go_wp2
    go_ret
    exact ⟨r3, rfl, E3.out.1, by unfold widthN; rw [H0.out]; exact E3.out.arith _ E1.out E2.out, below_drewN H1.out _⟩
  · go_enter Try.func36, Try.ntmps36
    go_wp2_with fail
    refine (bounded_spec _ _ _).mono ?_
    rintro e w1 ⟨rfl, hb⟩
    rw [h0]
    have H0 := hid h0
    clear h0
    go_wp2
    go_ret
    exact ⟨_, rfl, by show (13830554455654793216 : Nat) < 2 ^ 64; omega, by unfold widthN; rw [H0.out]; exact Fl.Eqv.refl _ _, bthen (below_new _ _) hb⟩

set_option maxHeartbeats 400000 in
theorem eqSpan_any (l h : Nat) (w : World) :
    Calls Try.prog 29 #[.agg #[.float .f32 l, .float .f32 h], .agg #[.float .f32 l, .float .f32 h]] w fun e w' => e = .returned (.bool true) ∧ Below w.heap.size w w' := by
  go_enter Try.func29, Try.ntmps29
  go_wp2
  refine upon_widen some_f32 Try.underlying29 ?_
  intro r1 n1 hr1
  go_wp2
  refine upon_widen some_f32 Try.underlying29 ?_
  intro r2 n2 hr2
  have E1 := hid (hr1.w.trans _ hr2.w.symm)
  clear hr1 hr2
  go_wp2_with fail
  refine (same_any _ _ _ E1.out).mono ?_
  rintro e w' ⟨rfl, m1, rfl⟩
  go_wp2
  refine upon_widen some_f32 Try.underlying29 ?_
  intro r3 n3 hr3
  go_wp2
  refine upon_widen some_f32 Try.underlying29 ?_
  intro r4 n4 hr4
  have E2 := hid (hr3.w.trans _ hr4.w.symm)
  clear hr3 hr4
  go_wp2_with fail
  refine (same_any _ _ _ E2.out).mono ?_
  rintro e w' ⟨rfl, m2, rfl⟩
  go_wp2
  go_ret
  exact ⟨rfl, below_drewN (below2 _ _ _) _⟩
end Go.Proofs.Ytecmdbbppinamaa
