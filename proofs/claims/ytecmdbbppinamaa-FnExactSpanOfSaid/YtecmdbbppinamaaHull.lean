/- The contracts of HullSpans and MeetSpans, of the program and of the reference alike. -/
import Derived.Test.YtecmdbbppinamaaSpan2
namespace Go.Proofs.Ytecmdbbppinamaa
open Go.RowKit

def hullV (a b c d : Nat) : Value := if Fl.le .f32 a b && Fl.le .f32 c d then .tuple #[spanV (if Fl.lt .f32 c a then c else a) (if Fl.gt .f32 d b then d else b), .bool true] else noSpan
def meetV (a b c d : Nat) : Value :=
  if Fl.le .f32 a b && Fl.le .f32 c d then
    if Fl.le .f32 (if Fl.gt .f32 c a then c else a) (if Fl.lt .f32 d b then d else b) then .tuple #[spanV (if Fl.gt .f32 c a then c else a) (if Fl.lt .f32 d b then d else b), .bool true] else noSpan
  else noSpan

set_option maxHeartbeats 400000 in
theorem spanned_0 (l h : Nat) (w : World) (h0 : Fl.le .f32 l h = false) :
    Calls Try.prog 63 #[.float .f32 l, .float .f32 h] w fun e w' => e = .returned (noSpan) ∧ Below w.heap.size w w' := by
  go_enter Try.func63, Try.ntmps63
  go_wp2_with fail
  refine (spanOk_impl _ _ _).mono ?_
  rintro e w1 ⟨rfl, hb⟩
  rw [h0]
  have H1 := hid (bthen (below2 _ _ _) hb)
  obtain ⟨A1, A2⟩ := boxf2 w (.float .f32 0) (.float .f32 0) (.float .f32 l) (.float .f32 h) 26 26
  obtain ⟨za, ka, ka', fa, fa'⟩ := A1.next hb
  obtain ⟨zb, kb, kb', fb, fb'⟩ := A2.next hb
  clear hb A1 A2
  go_wp2
  exact bodyPost_ret (v := noSpan) (by simp [results, Try.results63, go_sem, ka, ka']) rfl ⟨rfl, (H1.out.setCell (by simp) _).setCell (by simp) _⟩

set_option maxHeartbeats 400000 in
theorem spanned_1 (l h : Nat) (w : World) (h0 : Fl.le .f32 l h = true) :
    Calls Try.prog 63 #[.float .f32 l, .float .f32 h] w fun e w' => e = .returned (.tuple #[spanV l h, .bool true]) ∧ Below w.heap.size w w' := by
  go_enter Try.func63, Try.ntmps63
  go_wp2_with fail
  refine (spanOk_impl _ _ _).mono ?_
  rintro e w1 ⟨rfl, hb⟩
  rw [h0]
  have H1 := hid (bthen (below2 _ _ _) hb)
  obtain ⟨A1, A2⟩ := boxf2 w (.float .f32 0) (.float .f32 0) (.float .f32 l) (.float .f32 h) 26 26
  obtain ⟨za, ka, ka', fa, fa'⟩ := A1.next hb
  obtain ⟨zb, kb, kb', fb, fb'⟩ := A2.next hb
  clear hb A1 A2
  go_wp2
  exact bodyPost_ret (v := .tuple #[spanV l h, .bool true]) (by simp [results, Try.results63, go_sem, ka, ka']) rfl ⟨rfl, (H1.out.setCell (by simp) _).setCell (by simp) _⟩

set_option maxHeartbeats 1000000 in
theorem hull_impl_00 (a b c d : Nat) (w : World) (h0 : Fl.le .f32 a b = false) :
    Calls Try.prog 35 #[.agg #[.float .f32 a, .float .f32 b], .agg #[.float .f32 c, .float .f32 d]] w fun e w' => e = .returned (noSpan) ∧ Below w.heap.size w w' := by
  go_enter Try.func35, Try.ntmps35
  go_wp2_with fail
  refine (spanOk_impl _ _ _).mono ?_
  rintro e w1 ⟨rfl, hb⟩
  rw [h0]
  have H0 := hid h0
  have H1 := hid (bthen (below3 _ _ _ _) hb)
  obtain ⟨A1, A2, A3⟩ := boxf3 w (.float .f32 a) (.float .f32 b) (.float .f32 c) (.float .f32 d) (.float .f32 0) (.float .f32 0) 26 26 26
  have A1 := hid (A1.next hb)
  have A2 := hid (A2.next hb)
  have A3 := hid (A3.next hb)
  clear hb h0
  obtain ⟨za, ka, ka', fa, fa'⟩ := A1.out
  obtain ⟨zb, kb, kb', fb, fb'⟩ := A2.out
  obtain ⟨zc, kc, kc', fc, fc'⟩ := A3.out
  go_wp2
  exact bodyPost_ret (v := noSpan) (by simp [results, Try.results35, go_sem, kc, kc']) rfl ⟨rfl, (by repeat (first | exact H2.out | exact H1.out | exact H3.out | (refine Below.setCell ?_ (by first | (simp; done) | (simp; omega)) _) | (refine Below.alloc ?_ (by first | (have := H2.out.size; omega) | (have := H2.out.size; simp; omega)) _)))⟩

set_option maxHeartbeats 1000000 in
theorem hull_impl_01 (a b c d : Nat) (w : World) (h0 : Fl.le .f32 a b = true) (h1 : Fl.le .f32 c d = false) :
    Calls Try.prog 35 #[.agg #[.float .f32 a, .float .f32 b], .agg #[.float .f32 c, .float .f32 d]] w fun e w' => e = .returned (noSpan) ∧ Below w.heap.size w w' := by
  go_enter Try.func35, Try.ntmps35
  go_wp2_with fail
  refine (spanOk_impl _ _ _).mono ?_
  rintro e w1 ⟨rfl, hb⟩
  rw [h0]
  have H0 := hid h0
  have H1 := hid (bthen (below3 _ _ _ _) hb)
  obtain ⟨A1, A2, A3⟩ := boxf3 w (.float .f32 a) (.float .f32 b) (.float .f32 c) (.float .f32 d) (.float .f32 0) (.float .f32 0) 26 26 26
  have A1 := hid (A1.next hb)
  have A2 := hid (A2.next hb)
  have A3 := hid (A3.next hb)
  clear hb h0
  obtain ⟨za, ka, ka', fa, fa'⟩ := A1.out
  obtain ⟨zb, kb, kb', fb, fb'⟩ := A2.out
  obtain ⟨zc, kc, kc', fc, fc'⟩ := A3.out
  go_wp2_with fail
  refine (spanOk_impl _ _ _).mono ?_
  rintro e w2 ⟨rfl, hb⟩
  rw [h1]
  have H1' := hid h1
  have H2 := hid (bthen H1.out hb)
  clear za ka ka' fa fa' zb kb kb' fb fb' zc kc kc' fc fc'
  have A1 := hid (A1.out.next hb)
  have A2 := hid (A2.out.next hb)
  have A3 := hid (A3.out.next hb)
  clear hb h1 H1
  obtain ⟨za, ka, ka', fa, fa'⟩ := A1.out
  obtain ⟨zb, kb, kb', fb, fb'⟩ := A2.out
  obtain ⟨zc, kc, kc', fc, fc'⟩ := A3.out
  go_wp2
  exact bodyPost_ret (v := noSpan) (by simp [results, Try.results35, go_sem, kc, kc']) rfl ⟨rfl, (by repeat (first | exact H2.out | exact H1.out | exact H3.out | (refine Below.setCell ?_ (by first | (simp; done) | (simp; omega)) _) | (refine Below.alloc ?_ (by first | (have := H2.out.size; omega) | (have := H2.out.size; simp; omega)) _)))⟩

set_option maxHeartbeats 1000000 in
theorem hull_impl_1 (a b c d : Nat) (w : World) (h0 : Fl.le .f32 a b = true) (h1 : Fl.le .f32 c d = true) :
    Calls Try.prog 35 #[.agg #[.float .f32 a, .float .f32 b], .agg #[.float .f32 c, .float .f32 d]] w fun e w' => e = .returned (hullV a b c d) ∧ Below w.heap.size w w' := by
  go_enter Try.func35, Try.ntmps35
  go_wp2_with fail
  refine (spanOk_impl _ _ _).mono ?_
  rintro e w1 ⟨rfl, hb⟩
  rw [h0]
  have H0 := hid h0
  have H1 := hid (bthen (below3 _ _ _ _) hb)
  obtain ⟨A1, A2, A3⟩ := boxf3 w (.float .f32 a) (.float .f32 b) (.float .f32 c) (.float .f32 d) (.float .f32 0) (.float .f32 0) 26 26 26
  have A1 := hid (A1.next hb)
  have A2 := hid (A2.next hb)
  have A3 := hid (A3.next hb)
  clear hb h0
  obtain ⟨za, ka, ka', fa, fa'⟩ := A1.out
  obtain ⟨zb, kb, kb', fb, fb'⟩ := A2.out
  obtain ⟨zc, kc, kc', fc, fc'⟩ := A3.out
  go_wp2_with fail
  refine (spanOk_impl _ _ _).mono ?_
  rintro e w2 ⟨rfl, hb⟩
  rw [h1]
  have H1' := hid h1
  have H2 := hid (bthen H1.out hb)
  clear za ka ka' fa fa' zb kb kb' fb fb' zc kc kc' fc fc'
  have A1 := hid (A1.out.next hb)
  have A2 := hid (A2.out.next hb)
  have A3 := hid (A3.out.next hb)
  clear hb h1 H1
  obtain ⟨za, ka, ka', fa, fa'⟩ := A1.out
  obtain ⟨zb, kb, kb', fb, fb'⟩ := A2.out
  obtain ⟨zc, kc, kc', fc, fc'⟩ := A3.out
  rcases Bool.eq_false_or_eq_true (FloatKind.f32.format.order c a == some .lt) with g1 | g1
  all_goals
    rcases Bool.eq_false_or_eq_true (FloatKind.f32.format.order d b == some .gt) with g2 | g2
    all_goals
      have G1 := hid g1
      have G2 := hid g2
      go_wp2
  · exact bodyPost_ret (v := .tuple #[spanV c d, .bool true]) (by simp [results, Try.results35, go_sem, kc, kc']) rfl ⟨by have e1 : Fl.lt .f32 c a = true := G1.out; have e2 : Fl.gt .f32 d b = true := G2.out; unfold hullV; rw [H0.out, H1'.out, e1, e2]; rfl, (by repeat (first | exact H2.out | exact H1.out | exact H3.out | (refine Below.setCell ?_ (by first | (simp; done) | (simp; omega)) _) | (refine Below.alloc ?_ (by first | (have := H2.out.size; omega) | (have := H2.out.size; simp; omega)) _)))⟩
  · exact bodyPost_ret (v := .tuple #[spanV c b, .bool true]) (by simp [results, Try.results35, go_sem, kc, kc']) rfl ⟨by have e1 : Fl.lt .f32 c a = true := G1.out; have e2 : Fl.gt .f32 d b = false := G2.out; unfold hullV; rw [H0.out, H1'.out, e1, e2]; rfl, (by repeat (first | exact H2.out | exact H1.out | exact H3.out | (refine Below.setCell ?_ (by first | (simp; done) | (simp; omega)) _) | (refine Below.alloc ?_ (by first | (have := H2.out.size; omega) | (have := H2.out.size; simp; omega)) _)))⟩
  · exact bodyPost_ret (v := .tuple #[spanV a d, .bool true]) (by simp [results, Try.results35, go_sem, kc, kc']) rfl ⟨by have e1 : Fl.lt .f32 c a = false := G1.out; have e2 : Fl.gt .f32 d b = true := G2.out; unfold hullV; rw [H0.out, H1'.out, e1, e2]; rfl, (by repeat (first | exact H2.out | exact H1.out | exact H3.out | (refine Below.setCell ?_ (by first | (simp; done) | (simp; omega)) _) | (refine Below.alloc ?_ (by first | (have := H2.out.size; omega) | (have := H2.out.size; simp; omega)) _)))⟩
  · exact bodyPost_ret (v := .tuple #[spanV a b, .bool true]) (by simp [results, Try.results35, go_sem, kc, kc']) rfl ⟨by have e1 : Fl.lt .f32 c a = false := G1.out; have e2 : Fl.gt .f32 d b = false := G2.out; unfold hullV; rw [H0.out, H1'.out, e1, e2]; rfl, (by repeat (first | exact H2.out | exact H1.out | exact H3.out | (refine Below.setCell ?_ (by first | (simp; done) | (simp; omega)) _) | (refine Below.alloc ?_ (by first | (have := H2.out.size; omega) | (have := H2.out.size; simp; omega)) _)))⟩

set_option maxHeartbeats 1000000 in
theorem meet_impl_00 (a b c d : Nat) (w : World) (h0 : Fl.le .f32 a b = false) :
    Calls Try.prog 40 #[.agg #[.float .f32 a, .float .f32 b], .agg #[.float .f32 c, .float .f32 d]] w fun e w' => e = .returned (noSpan) ∧ Below w.heap.size w w' := by
  go_enter Try.func40, Try.ntmps40
  go_wp2_with fail
  refine (spanOk_impl _ _ _).mono ?_
  rintro e w1 ⟨rfl, hb⟩
  rw [h0]
  have H0 := hid h0
  have H1 := hid (bthen (below3 _ _ _ _) hb)
  obtain ⟨A1, A2, A3⟩ := boxf3 w (.float .f32 a) (.float .f32 b) (.float .f32 c) (.float .f32 d) (.float .f32 0) (.float .f32 0) 26 26 26
  have A1 := hid (A1.next hb)
  have A2 := hid (A2.next hb)
  have A3 := hid (A3.next hb)
  clear hb h0
  obtain ⟨za, ka, ka', fa, fa'⟩ := A1.out
  obtain ⟨zb, kb, kb', fb, fb'⟩ := A2.out
  obtain ⟨zc, kc, kc', fc, fc'⟩ := A3.out
  go_wp2
  exact bodyPost_ret (v := noSpan) (by simp [results, Try.results40, go_sem, kc, kc']) rfl ⟨rfl, (by repeat (first | exact H2.out | exact H1.out | exact H3.out | (refine Below.setCell ?_ (by first | (simp; done) | (simp; omega)) _) | (refine Below.alloc ?_ (by first | (have := H2.out.size; omega) | (have := H2.out.size; simp; omega)) _)))⟩

set_option maxHeartbeats 1000000 in
theorem meet_impl_01 (a b c d : Nat) (w : World) (h0 : Fl.le .f32 a b = true) (h1 : Fl.le .f32 c d = false) :
    Calls Try.prog 40 #[.agg #[.float .f32 a, .float .f32 b], .agg #[.float .f32 c, .float .f32 d]] w fun e w' => e = .returned (noSpan) ∧ Below w.heap.size w w' := by
  go_enter Try.func40, Try.ntmps40
  go_wp2_with fail
  refine (spanOk_impl _ _ _).mono ?_
  rintro e w1 ⟨rfl, hb⟩
  rw [h0]
  have H0 := hid h0
  have H1 := hid (bthen (below3 _ _ _ _) hb)
  obtain ⟨A1, A2, A3⟩ := boxf3 w (.float .f32 a) (.float .f32 b) (.float .f32 c) (.float .f32 d) (.float .f32 0) (.float .f32 0) 26 26 26
  have A1 := hid (A1.next hb)
  have A2 := hid (A2.next hb)
  have A3 := hid (A3.next hb)
  clear hb h0
  obtain ⟨za, ka, ka', fa, fa'⟩ := A1.out
  obtain ⟨zb, kb, kb', fb, fb'⟩ := A2.out
  obtain ⟨zc, kc, kc', fc, fc'⟩ := A3.out
  go_wp2_with fail
  refine (spanOk_impl _ _ _).mono ?_
  rintro e w2 ⟨rfl, hb⟩
  rw [h1]
  have H1' := hid h1
  have H2 := hid (bthen H1.out hb)
  clear za ka ka' fa fa' zb kb kb' fb fb' zc kc kc' fc fc'
  have A1 := hid (A1.out.next hb)
  have A2 := hid (A2.out.next hb)
  have A3 := hid (A3.out.next hb)
  clear hb h1 H1
  obtain ⟨za, ka, ka', fa, fa'⟩ := A1.out
  obtain ⟨zb, kb, kb', fb, fb'⟩ := A2.out
  obtain ⟨zc, kc, kc', fc, fc'⟩ := A3.out
  go_wp2
  exact bodyPost_ret (v := noSpan) (by simp [results, Try.results40, go_sem, kc, kc']) rfl ⟨rfl, (by repeat (first | exact H2.out | exact H1.out | exact H3.out | (refine Below.setCell ?_ (by first | (simp; done) | (simp; omega)) _) | (refine Below.alloc ?_ (by first | (have := H2.out.size; omega) | (have := H2.out.size; simp; omega)) _)))⟩

set_option maxHeartbeats 1000000 in
theorem meet_impl_1 (a b c d : Nat) (w : World) (h0 : Fl.le .f32 a b = true) (h1 : Fl.le .f32 c d = true) :
    Calls Try.prog 40 #[.agg #[.float .f32 a, .float .f32 b], .agg #[.float .f32 c, .float .f32 d]] w fun e w' => e = .returned (meetV a b c d) ∧ Below w.heap.size w w' := by
  go_enter Try.func40, Try.ntmps40
  go_wp2_with fail
  refine (spanOk_impl _ _ _).mono ?_
  rintro e w1 ⟨rfl, hb⟩
  rw [h0]
  have H0 := hid h0
  have H1 := hid (bthen (below3 _ _ _ _) hb)
  obtain ⟨A1, A2, A3⟩ := boxf3 w (.float .f32 a) (.float .f32 b) (.float .f32 c) (.float .f32 d) (.float .f32 0) (.float .f32 0) 26 26 26
  have A1 := hid (A1.next hb)
  have A2 := hid (A2.next hb)
  have A3 := hid (A3.next hb)
  clear hb h0
  obtain ⟨za, ka, ka', fa, fa'⟩ := A1.out
  obtain ⟨zb, kb, kb', fb, fb'⟩ := A2.out
  obtain ⟨zc, kc, kc', fc, fc'⟩ := A3.out
  go_wp2_with fail
  refine (spanOk_impl _ _ _).mono ?_
  rintro e w2 ⟨rfl, hb⟩
  rw [h1]
  have H1' := hid h1
  have H2 := hid (bthen H1.out hb)
  clear za ka ka' fa fa' zb kb kb' fb fb' zc kc kc' fc fc'
  have A1 := hid (A1.out.next hb)
  have A2 := hid (A2.out.next hb)
  have A3 := hid (A3.out.next hb)
  clear hb h1 H1
  obtain ⟨za, ka, ka', fa, fa'⟩ := A1.out
  obtain ⟨zb, kb, kb', fb, fb'⟩ := A2.out
  obtain ⟨zc, kc, kc', fc, fc'⟩ := A3.out
  rcases Bool.eq_false_or_eq_true (FloatKind.f32.format.order c a == some .gt) with g1 | g1
  all_goals
    rcases Bool.eq_false_or_eq_true (FloatKind.f32.format.order d b == some .lt) with g2 | g2
    all_goals
      have G1 := hid g1
      have G2 := hid g2
      go_wp2_with fail
  · rcases Bool.eq_false_or_eq_true (Fl.le .f32 c d) with g3 | g3
    · have G3 := hid g3
      clear g3
      refine (spanned_1 _ _ _ G3.out).mono ?_
      rintro e w3 ⟨rfl, hb⟩
      have H3 := hid (bthen (w := w) (by repeat (first | exact H2.out | exact H1.out | exact H2.out | (refine Below.setCell ?_ (by first | (simp; done) | (simp; omega)) _) | (refine Below.alloc ?_ (by first | (have := H2.out.size; omega) | (have := H2.out.size; simp; omega)) _))) hb)
      clear za ka ka' fa fa' zb kb kb' fb fb' zc kc kc' fc fc'
      obtain ⟨zc, kc, kc', fc, fc'⟩ := Boxf.next (B := w.heap.size + 1 + 1) (a := .float .f32 0) (b := .float .f32 0) (by repeat (first | exact A3.out | refine Boxf.set ?_ (by first | (simp; done) | (simp; omega)) _)) hb
      clear hb A1 A2 A3
      go_wp2
      exact bodyPost_ret (v := .tuple #[spanV c d, .bool true]) (by simp [results, Try.results40, go_sem, kc, kc']) rfl ⟨by have e1 : Fl.gt .f32 c a = true := G1.out; have e2 : Fl.lt .f32 d b = true := G2.out; have e3 : Fl.le .f32 c d = true := G3.out; unfold meetV; rw [H0.out, H1'.out, e1, e2]; simp [e3], (by repeat (first | exact H2.out | exact H1.out | exact H3.out | (refine Below.setCell ?_ (by first | (simp; done) | (simp; omega)) _) | (refine Below.alloc ?_ (by first | (have := H2.out.size; omega) | (have := H2.out.size; simp; omega)) _)))⟩
    · have G3 := hid g3
      clear g3
      refine (spanned_0 _ _ _ G3.out).mono ?_
      rintro e w3 ⟨rfl, hb⟩
      have H3 := hid (bthen (w := w) (by repeat (first | exact H2.out | exact H1.out | exact H2.out | (refine Below.setCell ?_ (by first | (simp; done) | (simp; omega)) _) | (refine Below.alloc ?_ (by first | (have := H2.out.size; omega) | (have := H2.out.size; simp; omega)) _))) hb)
      clear za ka ka' fa fa' zb kb kb' fb fb' zc kc kc' fc fc'
      obtain ⟨zc, kc, kc', fc, fc'⟩ := Boxf.next (B := w.heap.size + 1 + 1) (a := .float .f32 0) (b := .float .f32 0) (by repeat (first | exact A3.out | refine Boxf.set ?_ (by first | (simp; done) | (simp; omega)) _)) hb
      clear hb A1 A2 A3
      go_wp2
      exact bodyPost_ret (v := noSpan) (by simp [results, Try.results40, go_sem, kc, kc']) rfl ⟨by have e1 : Fl.gt .f32 c a = true := G1.out; have e2 : Fl.lt .f32 d b = true := G2.out; have e3 : Fl.le .f32 c d = false := G3.out; unfold meetV; rw [H0.out, H1'.out, e1, e2]; simp [e3], (by repeat (first | exact H2.out | exact H1.out | exact H3.out | (refine Below.setCell ?_ (by first | (simp; done) | (simp; omega)) _) | (refine Below.alloc ?_ (by first | (have := H2.out.size; omega) | (have := H2.out.size; simp; omega)) _)))⟩
  · rcases Bool.eq_false_or_eq_true (Fl.le .f32 c b) with g3 | g3
    · have G3 := hid g3
      clear g3
      refine (spanned_1 _ _ _ G3.out).mono ?_
      rintro e w3 ⟨rfl, hb⟩
      have H3 := hid (bthen (w := w) (by repeat (first | exact H2.out | exact H1.out | exact H2.out | (refine Below.setCell ?_ (by first | (simp; done) | (simp; omega)) _) | (refine Below.alloc ?_ (by first | (have := H2.out.size; omega) | (have := H2.out.size; simp; omega)) _))) hb)
      clear za ka ka' fa fa' zb kb kb' fb fb' zc kc kc' fc fc'
      obtain ⟨zc, kc, kc', fc, fc'⟩ := Boxf.next (B := w.heap.size + 1 + 1) (a := .float .f32 0) (b := .float .f32 0) (by repeat (first | exact A3.out | refine Boxf.set ?_ (by first | (simp; done) | (simp; omega)) _)) hb
      clear hb A1 A2 A3
      go_wp2
      exact bodyPost_ret (v := .tuple #[spanV c b, .bool true]) (by simp [results, Try.results40, go_sem, kc, kc']) rfl ⟨by have e1 : Fl.gt .f32 c a = true := G1.out; have e2 : Fl.lt .f32 d b = false := G2.out; have e3 : Fl.le .f32 c b = true := G3.out; unfold meetV; rw [H0.out, H1'.out, e1, e2]; simp [e3], (by repeat (first | exact H2.out | exact H1.out | exact H3.out | (refine Below.setCell ?_ (by first | (simp; done) | (simp; omega)) _) | (refine Below.alloc ?_ (by first | (have := H2.out.size; omega) | (have := H2.out.size; simp; omega)) _)))⟩
    · have G3 := hid g3
      clear g3
      refine (spanned_0 _ _ _ G3.out).mono ?_
      rintro e w3 ⟨rfl, hb⟩
      have H3 := hid (bthen (w := w) (by repeat (first | exact H2.out | exact H1.out | exact H2.out | (refine Below.setCell ?_ (by first | (simp; done) | (simp; omega)) _) | (refine Below.alloc ?_ (by first | (have := H2.out.size; omega) | (have := H2.out.size; simp; omega)) _))) hb)
      clear za ka ka' fa fa' zb kb kb' fb fb' zc kc kc' fc fc'
      obtain ⟨zc, kc, kc', fc, fc'⟩ := Boxf.next (B := w.heap.size + 1 + 1) (a := .float .f32 0) (b := .float .f32 0) (by repeat (first | exact A3.out | refine Boxf.set ?_ (by first | (simp; done) | (simp; omega)) _)) hb
      clear hb A1 A2 A3
      go_wp2
      exact bodyPost_ret (v := noSpan) (by simp [results, Try.results40, go_sem, kc, kc']) rfl ⟨by have e1 : Fl.gt .f32 c a = true := G1.out; have e2 : Fl.lt .f32 d b = false := G2.out; have e3 : Fl.le .f32 c b = false := G3.out; unfold meetV; rw [H0.out, H1'.out, e1, e2]; simp [e3], (by repeat (first | exact H2.out | exact H1.out | exact H3.out | (refine Below.setCell ?_ (by first | (simp; done) | (simp; omega)) _) | (refine Below.alloc ?_ (by first | (have := H2.out.size; omega) | (have := H2.out.size; simp; omega)) _)))⟩
  · rcases Bool.eq_false_or_eq_true (Fl.le .f32 a d) with g3 | g3
    · have G3 := hid g3
      clear g3
      refine (spanned_1 _ _ _ G3.out).mono ?_
      rintro e w3 ⟨rfl, hb⟩
      have H3 := hid (bthen (w := w) (by repeat (first | exact H2.out | exact H1.out | exact H2.out | (refine Below.setCell ?_ (by first | (simp; done) | (simp; omega)) _) | (refine Below.alloc ?_ (by first | (have := H2.out.size; omega) | (have := H2.out.size; simp; omega)) _))) hb)
      clear za ka ka' fa fa' zb kb kb' fb fb' zc kc kc' fc fc'
      obtain ⟨zc, kc, kc', fc, fc'⟩ := Boxf.next (B := w.heap.size + 1 + 1) (a := .float .f32 0) (b := .float .f32 0) (by repeat (first | exact A3.out | refine Boxf.set ?_ (by first | (simp; done) | (simp; omega)) _)) hb
      clear hb A1 A2 A3
      go_wp2
      exact bodyPost_ret (v := .tuple #[spanV a d, .bool true]) (by simp [results, Try.results40, go_sem, kc, kc']) rfl ⟨by have e1 : Fl.gt .f32 c a = false := G1.out; have e2 : Fl.lt .f32 d b = true := G2.out; have e3 : Fl.le .f32 a d = true := G3.out; unfold meetV; rw [H0.out, H1'.out, e1, e2]; simp [e3], (by repeat (first | exact H2.out | exact H1.out | exact H3.out | (refine Below.setCell ?_ (by first | (simp; done) | (simp; omega)) _) | (refine Below.alloc ?_ (by first | (have := H2.out.size; omega) | (have := H2.out.size; simp; omega)) _)))⟩
    · have G3 := hid g3
      clear g3
      refine (spanned_0 _ _ _ G3.out).mono ?_
      rintro e w3 ⟨rfl, hb⟩
      have H3 := hid (bthen (w := w) (by repeat (first | exact H2.out | exact H1.out | exact H2.out | (refine Below.setCell ?_ (by first | (simp; done) | (simp; omega)) _) | (refine Below.alloc ?_ (by first | (have := H2.out.size; omega) | (have := H2.out.size; simp; omega)) _))) hb)
      clear za ka ka' fa fa' zb kb kb' fb fb' zc kc kc' fc fc'
      obtain ⟨zc, kc, kc', fc, fc'⟩ := Boxf.next (B := w.heap.size + 1 + 1) (a := .float .f32 0) (b := .float .f32 0) (by repeat (first | exact A3.out | refine Boxf.set ?_ (by first | (simp; done) | (simp; omega)) _)) hb
      clear hb A1 A2 A3
      go_wp2
      exact bodyPost_ret (v := noSpan) (by simp [results, Try.results40, go_sem, kc, kc']) rfl ⟨by have e1 : Fl.gt .f32 c a = false := G1.out; have e2 : Fl.lt .f32 d b = true := G2.out; have e3 : Fl.le .f32 a d = false := G3.out; unfold meetV; rw [H0.out, H1'.out, e1, e2]; simp [e3], (by repeat (first | exact H2.out | exact H1.out | exact H3.out | (refine Below.setCell ?_ (by first | (simp; done) | (simp; omega)) _) | (refine Below.alloc ?_ (by first | (have := H2.out.size; omega) | (have := H2.out.size; simp; omega)) _)))⟩
  · rcases Bool.eq_false_or_eq_true (Fl.le .f32 a b) with g3 | g3
    · have G3 := hid g3
      clear g3
      refine (spanned_1 _ _ _ G3.out).mono ?_
      rintro e w3 ⟨rfl, hb⟩
      have H3 := hid (bthen (w := w) (by repeat (first | exact H2.out | exact H1.out | exact H2.out | (refine Below.setCell ?_ (by first | (simp; done) | (simp; omega)) _) | (refine Below.alloc ?_ (by first | (have := H2.out.size; omega) | (have := H2.out.size; simp; omega)) _))) hb)
      clear za ka ka' fa fa' zb kb kb' fb fb' zc kc kc' fc fc'
      obtain ⟨zc, kc, kc', fc, fc'⟩ := Boxf.next (B := w.heap.size + 1 + 1) (a := .float .f32 0) (b := .float .f32 0) (by repeat (first | exact A3.out | refine Boxf.set ?_ (by first | (simp; done) | (simp; omega)) _)) hb
      clear hb A1 A2 A3
      go_wp2
      exact bodyPost_ret (v := .tuple #[spanV a b, .bool true]) (by simp [results, Try.results40, go_sem, kc, kc']) rfl ⟨by have e1 : Fl.gt .f32 c a = false := G1.out; have e2 : Fl.lt .f32 d b = false := G2.out; have e3 : Fl.le .f32 a b = true := G3.out; unfold meetV; rw [H0.out, H1'.out, e1, e2]; simp [e3], (by repeat (first | exact H2.out | exact H1.out | exact H3.out | (refine Below.setCell ?_ (by first | (simp; done) | (simp; omega)) _) | (refine Below.alloc ?_ (by first | (have := H2.out.size; omega) | (have := H2.out.size; simp; omega)) _)))⟩
    · have G3 := hid g3
      clear g3
      refine (spanned_0 _ _ _ G3.out).mono ?_
      rintro e w3 ⟨rfl, hb⟩
      have H3 := hid (bthen (w := w) (by repeat (first | exact H2.out | exact H1.out | exact H2.out | (refine Below.setCell ?_ (by first | (simp; done) | (simp; omega)) _) | (refine Below.alloc ?_ (by first | (have := H2.out.size; omega) | (have := H2.out.size; simp; omega)) _))) hb)
      clear za ka ka' fa fa' zb kb kb' fb fb' zc kc kc' fc fc'
      obtain ⟨zc, kc, kc', fc, fc'⟩ := Boxf.next (B := w.heap.size + 1 + 1) (a := .float .f32 0) (b := .float .f32 0) (by repeat (first | exact A3.out | refine Boxf.set ?_ (by first | (simp; done) | (simp; omega)) _)) hb
      clear hb A1 A2 A3
      go_wp2
      exact bodyPost_ret (v := noSpan) (by simp [results, Try.results40, go_sem, kc, kc']) rfl ⟨by have e1 : Fl.gt .f32 c a = false := G1.out; have e2 : Fl.lt .f32 d b = false := G2.out; have e3 : Fl.le .f32 a b = false := G3.out; unfold meetV; rw [H0.out, H1'.out, e1, e2]; simp [e3], (by repeat (first | exact H2.out | exact H1.out | exact H3.out | (refine Below.setCell ?_ (by first | (simp; done) | (simp; omega)) _) | (refine Below.alloc ?_ (by first | (have := H2.out.size; omega) | (have := H2.out.size; simp; omega)) _)))⟩

set_option maxHeartbeats 1000000 in
theorem hull_spec_00 (a b c d : Nat) (w : World) (h0 : Fl.le .f32 a b = false) :
    Calls Try.prog 34 #[.agg #[.float .f32 a, .float .f32 b], .agg #[.float .f32 c, .float .f32 d]] w fun e w' => e = .returned (noSpan) ∧ Below w.heap.size w w' := by
  go_enter Try.func34, Try.ntmps34
  go_wp2_with fail
  refine (spanOk_spec _ _ _).mono ?_
  rintro e w1 ⟨rfl, hb⟩
  rw [h0]
  have H0 := hid h0
  have H1 := hid (bthen (below3 _ _ _ _) hb)
  obtain ⟨A1, A2, A3⟩ := boxf3 w (.float .f32 a) (.float .f32 b) (.float .f32 c) (.float .f32 d) (.float .f32 0) (.float .f32 0) 26 26 26
  have A1 := hid (A1.next hb)
  have A2 := hid (A2.next hb)
  have A3 := hid (A3.next hb)
  clear hb h0
  obtain ⟨za, ka, ka', fa, fa'⟩ := A1.out
  obtain ⟨zb, kb, kb', fb, fb'⟩ := A2.out
  obtain ⟨zc, kc, kc', fc, fc'⟩ := A3.out
  go_wp2
  exact bodyPost_ret (v := noSpan) (by simp [results, Try.results34, go_sem, kc, kc']) rfl ⟨rfl, (by repeat (first | exact H2.out | exact H1.out | exact H3.out | (refine Below.setCell ?_ (by first | (simp; done) | (simp; omega)) _) | (refine Below.alloc ?_ (by first | (have := H2.out.size; omega) | (have := H2.out.size; simp; omega)) _)))⟩

set_option maxHeartbeats 1000000 in
theorem hull_spec_01 (a b c d : Nat) (w : World) (h0 : Fl.le .f32 a b = true) (h1 : Fl.le .f32 c d = false) :
    Calls Try.prog 34 #[.agg #[.float .f32 a, .float .f32 b], .agg #[.float .f32 c, .float .f32 d]] w fun e w' => e = .returned (noSpan) ∧ Below w.heap.size w w' := by
  go_enter Try.func34, Try.ntmps34
  go_wp2_with fail
  refine (spanOk_spec _ _ _).mono ?_
  rintro e w1 ⟨rfl, hb⟩
  rw [h0]
  have H0 := hid h0
  have H1 := hid (bthen (below3 _ _ _ _) hb)
  obtain ⟨A1, A2, A3⟩ := boxf3 w (.float .f32 a) (.float .f32 b) (.float .f32 c) (.float .f32 d) (.float .f32 0) (.float .f32 0) 26 26 26
  have A1 := hid (A1.next hb)
  have A2 := hid (A2.next hb)
  have A3 := hid (A3.next hb)
  clear hb h0
  obtain ⟨za, ka, ka', fa, fa'⟩ := A1.out
  obtain ⟨zb, kb, kb', fb, fb'⟩ := A2.out
  obtain ⟨zc, kc, kc', fc, fc'⟩ := A3.out
  go_wp2_with fail
  refine (spanOk_spec _ _ _).mono ?_
  rintro e w2 ⟨rfl, hb⟩
  rw [h1]
  have H1' := hid h1
  have H2 := hid (bthen H1.out hb)
  clear za ka ka' fa fa' zb kb kb' fb fb' zc kc kc' fc fc'
  have A1 := hid (A1.out.next hb)
  have A2 := hid (A2.out.next hb)
  have A3 := hid (A3.out.next hb)
  clear hb h1 H1
  obtain ⟨za, ka, ka', fa, fa'⟩ := A1.out
  obtain ⟨zb, kb, kb', fb, fb'⟩ := A2.out
  obtain ⟨zc, kc, kc', fc, fc'⟩ := A3.out
  go_wp2
  exact bodyPost_ret (v := noSpan) (by simp [results, Try.results34, go_sem, kc, kc']) rfl ⟨rfl, (by repeat (first | exact H2.out | exact H1.out | exact H3.out | (refine Below.setCell ?_ (by first | (simp; done) | (simp; omega)) _) | (refine Below.alloc ?_ (by first | (have := H2.out.size; omega) | (have := H2.out.size; simp; omega)) _)))⟩

set_option maxHeartbeats 1000000 in
theorem hull_spec_1 (a b c d : Nat) (w : World) (h0 : Fl.le .f32 a b = true) (h1 : Fl.le .f32 c d = true) :
    Calls Try.prog 34 #[.agg #[.float .f32 a, .float .f32 b], .agg #[.float .f32 c, .float .f32 d]] w fun e w' => e = .returned (hullV a b c d) ∧ Below w.heap.size w w' := by
  go_enter Try.func34, Try.ntmps34
  go_wp2_with fail
  refine (spanOk_spec _ _ _).mono ?_
  rintro e w1 ⟨rfl, hb⟩
  rw [h0]
  have H0 := hid h0
  have H1 := hid (bthen (below3 _ _ _ _) hb)
  obtain ⟨A1, A2, A3⟩ := boxf3 w (.float .f32 a) (.float .f32 b) (.float .f32 c) (.float .f32 d) (.float .f32 0) (.float .f32 0) 26 26 26
  have A1 := hid (A1.next hb)
  have A2 := hid (A2.next hb)
  have A3 := hid (A3.next hb)
  clear hb h0
  obtain ⟨za, ka, ka', fa, fa'⟩ := A1.out
  obtain ⟨zb, kb, kb', fb, fb'⟩ := A2.out
  obtain ⟨zc, kc, kc', fc, fc'⟩ := A3.out
  go_wp2_with fail
  refine (spanOk_spec _ _ _).mono ?_
  rintro e w2 ⟨rfl, hb⟩
  rw [h1]
  have H1' := hid h1
  have H2 := hid (bthen H1.out hb)
  clear za ka ka' fa fa' zb kb kb' fb fb' zc kc kc' fc fc'
  have A1 := hid (A1.out.next hb)
  have A2 := hid (A2.out.next hb)
  have A3 := hid (A3.out.next hb)
  clear hb h1 H1
  obtain ⟨za, ka, ka', fa, fa'⟩ := A1.out
  obtain ⟨zb, kb, kb', fb, fb'⟩ := A2.out
  obtain ⟨zc, kc, kc', fc, fc'⟩ := A3.out
  rcases Bool.eq_false_or_eq_true (FloatKind.f32.format.order c a == some .lt) with g1 | g1
  all_goals
    rcases Bool.eq_false_or_eq_true (FloatKind.f32.format.order d b == some .gt) with g2 | g2
    all_goals
      have G1 := hid g1
      have G2 := hid g2
      go_wp2
  · exact bodyPost_ret (v := .tuple #[spanV c d, .bool true]) (by simp [results, Try.results34, go_sem, kc, kc', zc]) rfl ⟨by have e1 : Fl.lt .f32 c a = true := G1.out; have e2 : Fl.gt .f32 d b = true := G2.out; unfold hullV; rw [H0.out, H1'.out, e1, e2]; rfl, (by repeat (first | exact H2.out | exact H1.out | exact H3.out | (refine Below.setCell ?_ (by first | (simp; done) | (simp; omega)) _) | (refine Below.alloc ?_ (by first | (have := H2.out.size; omega) | (have := H2.out.size; simp; omega)) _)))⟩
  · exact bodyPost_ret (v := .tuple #[spanV c b, .bool true]) (by simp [results, Try.results34, go_sem, kc, kc', zc]) rfl ⟨by have e1 : Fl.lt .f32 c a = true := G1.out; have e2 : Fl.gt .f32 d b = false := G2.out; unfold hullV; rw [H0.out, H1'.out, e1, e2]; rfl, (by repeat (first | exact H2.out | exact H1.out | exact H3.out | (refine Below.setCell ?_ (by first | (simp; done) | (simp; omega)) _) | (refine Below.alloc ?_ (by first | (have := H2.out.size; omega) | (have := H2.out.size; simp; omega)) _)))⟩
  · exact bodyPost_ret (v := .tuple #[spanV a d, .bool true]) (by simp [results, Try.results34, go_sem, kc, kc', zc]) rfl ⟨by have e1 : Fl.lt .f32 c a = false := G1.out; have e2 : Fl.gt .f32 d b = true := G2.out; unfold hullV; rw [H0.out, H1'.out, e1, e2]; rfl, (by repeat (first | exact H2.out | exact H1.out | exact H3.out | (refine Below.setCell ?_ (by first | (simp; done) | (simp; omega)) _) | (refine Below.alloc ?_ (by first | (have := H2.out.size; omega) | (have := H2.out.size; simp; omega)) _)))⟩
  · exact bodyPost_ret (v := .tuple #[spanV a b, .bool true]) (by simp [results, Try.results34, go_sem, kc, kc', zc]) rfl ⟨by have e1 : Fl.lt .f32 c a = false := G1.out; have e2 : Fl.gt .f32 d b = false := G2.out; unfold hullV; rw [H0.out, H1'.out, e1, e2]; rfl, (by repeat (first | exact H2.out | exact H1.out | exact H3.out | (refine Below.setCell ?_ (by first | (simp; done) | (simp; omega)) _) | (refine Below.alloc ?_ (by first | (have := H2.out.size; omega) | (have := H2.out.size; simp; omega)) _)))⟩

set_option maxHeartbeats 1000000 in
theorem meet_spec_00 (a b c d : Nat) (w : World) (h0 : Fl.le .f32 a b = false) :
    Calls Try.prog 39 #[.agg #[.float .f32 a, .float .f32 b], .agg #[.float .f32 c, .float .f32 d]] w fun e w' => e = .returned (noSpan) ∧ Below w.heap.size w w' := by
  go_enter Try.func39, Try.ntmps39
  go_wp2_with fail
  refine (spanOk_spec _ _ _).mono ?_
  rintro e w1 ⟨rfl, hb⟩
  rw [h0]
  have H0 := hid h0
  have H1 := hid (bthen (below3 _ _ _ _) hb)
  obtain ⟨A1, A2, A3⟩ := boxf3 w (.float .f32 a) (.float .f32 b) (.float .f32 c) (.float .f32 d) (.float .f32 0) (.float .f32 0) 26 26 26
  have A1 := hid (A1.next hb)
  have A2 := hid (A2.next hb)
  have A3 := hid (A3.next hb)
  clear hb h0
  obtain ⟨za, ka, ka', fa, fa'⟩ := A1.out
  obtain ⟨zb, kb, kb', fb, fb'⟩ := A2.out
  obtain ⟨zc, kc, kc', fc, fc'⟩ := A3.out
  go_wp2
  exact bodyPost_ret (v := noSpan) (by simp [results, Try.results39, go_sem, kc, kc']) rfl ⟨rfl, (by repeat (first | exact H2.out | exact H1.out | exact H3.out | (refine Below.setCell ?_ (by first | (simp; done) | (simp; omega)) _) | (refine Below.alloc ?_ (by first | (have := H2.out.size; omega) | (have := H2.out.size; simp; omega)) _)))⟩

set_option maxHeartbeats 1000000 in
theorem meet_spec_01 (a b c d : Nat) (w : World) (h0 : Fl.le .f32 a b = true) (h1 : Fl.le .f32 c d = false) :
    Calls Try.prog 39 #[.agg #[.float .f32 a, .float .f32 b], .agg #[.float .f32 c, .float .f32 d]] w fun e w' => e = .returned (noSpan) ∧ Below w.heap.size w w' := by
  go_enter Try.func39, Try.ntmps39
  go_wp2_with fail
  refine (spanOk_spec _ _ _).mono ?_
  rintro e w1 ⟨rfl, hb⟩
  rw [h0]
  have H0 := hid h0
  have H1 := hid (bthen (below3 _ _ _ _) hb)
  obtain ⟨A1, A2, A3⟩ := boxf3 w (.float .f32 a) (.float .f32 b) (.float .f32 c) (.float .f32 d) (.float .f32 0) (.float .f32 0) 26 26 26
  have A1 := hid (A1.next hb)
  have A2 := hid (A2.next hb)
  have A3 := hid (A3.next hb)
  clear hb h0
  obtain ⟨za, ka, ka', fa, fa'⟩ := A1.out
  obtain ⟨zb, kb, kb', fb, fb'⟩ := A2.out
  obtain ⟨zc, kc, kc', fc, fc'⟩ := A3.out
  go_wp2_with fail
  refine (spanOk_spec _ _ _).mono ?_
  rintro e w2 ⟨rfl, hb⟩
  rw [h1]
  have H1' := hid h1
  have H2 := hid (bthen H1.out hb)
  clear za ka ka' fa fa' zb kb kb' fb fb' zc kc kc' fc fc'
  have A1 := hid (A1.out.next hb)
  have A2 := hid (A2.out.next hb)
  have A3 := hid (A3.out.next hb)
  clear hb h1 H1
  obtain ⟨za, ka, ka', fa, fa'⟩ := A1.out
  obtain ⟨zb, kb, kb', fb, fb'⟩ := A2.out
  obtain ⟨zc, kc, kc', fc, fc'⟩ := A3.out
  go_wp2
  exact bodyPost_ret (v := noSpan) (by simp [results, Try.results39, go_sem, kc, kc']) rfl ⟨rfl, (by repeat (first | exact H2.out | exact H1.out | exact H3.out | (refine Below.setCell ?_ (by first | (simp; done) | (simp; omega)) _) | (refine Below.alloc ?_ (by first | (have := H2.out.size; omega) | (have := H2.out.size; simp; omega)) _)))⟩

set_option maxHeartbeats 1000000 in
theorem meet_spec_1 (a b c d : Nat) (w : World) (h0 : Fl.le .f32 a b = true) (h1 : Fl.le .f32 c d = true) :
    Calls Try.prog 39 #[.agg #[.float .f32 a, .float .f32 b], .agg #[.float .f32 c, .float .f32 d]] w fun e w' => e = .returned (meetV a b c d) ∧ Below w.heap.size w w' := by
  go_enter Try.func39, Try.ntmps39
  go_wp2_with fail
  refine (spanOk_spec _ _ _).mono ?_
  rintro e w1 ⟨rfl, hb⟩
  rw [h0]
  have H0 := hid h0
  have H1 := hid (bthen (below3 _ _ _ _) hb)
  obtain ⟨A1, A2, A3⟩ := boxf3 w (.float .f32 a) (.float .f32 b) (.float .f32 c) (.float .f32 d) (.float .f32 0) (.float .f32 0) 26 26 26
  have A1 := hid (A1.next hb)
  have A2 := hid (A2.next hb)
  have A3 := hid (A3.next hb)
  clear hb h0
  obtain ⟨za, ka, ka', fa, fa'⟩ := A1.out
  obtain ⟨zb, kb, kb', fb, fb'⟩ := A2.out
  obtain ⟨zc, kc, kc', fc, fc'⟩ := A3.out
  go_wp2_with fail
  refine (spanOk_spec _ _ _).mono ?_
  rintro e w2 ⟨rfl, hb⟩
  rw [h1]
  have H1' := hid h1
  have H2 := hid (bthen H1.out hb)
  clear za ka ka' fa fa' zb kb kb' fb fb' zc kc kc' fc fc'
  have A1 := hid (A1.out.next hb)
  have A2 := hid (A2.out.next hb)
  have A3 := hid (A3.out.next hb)
  clear hb h1 H1
  obtain ⟨za, ka, ka', fa, fa'⟩ := A1.out
  obtain ⟨zb, kb, kb', fb, fb'⟩ := A2.out
  obtain ⟨zc, kc, kc', fc, fc'⟩ := A3.out
  rcases Bool.eq_false_or_eq_true (FloatKind.f32.format.order c a == some .gt) with g1 | g1
  all_goals
    rcases Bool.eq_false_or_eq_true (FloatKind.f32.format.order d b == some .lt) with g2 | g2
    all_goals
      have G1 := hid g1
      have G2 := hid g2
      go_wp2_with fail
  · rcases Bool.eq_false_or_eq_true (Fl.le .f32 c d) with g3 | g3
    · have G3 := hid g3
      clear g3
      refine (spanOk_spec _ _ _).mono ?_
      rintro e w3 ⟨rfl, hb⟩
      rw [G3.out]
      obtain ⟨zs, ks, ks', _, _⟩ := Boxf.next (boxf_new w2 _ _ _) hb
      have H3 := hid (bthen (w := w) (by repeat (first | exact H2.out | exact H1.out | exact H2.out | (refine Below.setCell ?_ (by first | (simp; done) | (simp; omega)) _) | (refine Below.alloc ?_ (by first | (have := H2.out.size; omega) | (have := H2.out.size; simp; omega)) _))) hb)
      clear za ka ka' fa fa' zb kb kb' fb fb' zc kc kc' fc fc'
      obtain ⟨zc, kc, kc', fc, fc'⟩ := Boxf.next (B := w.heap.size + 1 + 1) (a := .float .f32 0) (b := .float .f32 0) (by repeat (first | exact A3.out | refine Boxf.alloc ?_ _)) hb
      clear hb A1 A2 A3
      go_wp2
      exact bodyPost_ret (v := .tuple #[spanV c d, .bool true]) (by simp [results, Try.results39, go_sem, kc, kc']) rfl ⟨by have e1 : Fl.gt .f32 c a = true := G1.out; have e2 : Fl.lt .f32 d b = true := G2.out; have e3 : Fl.le .f32 c d = true := G3.out; unfold meetV; rw [H0.out, H1'.out, e1, e2]; simp [e3], (by repeat (first | exact H2.out | exact H1.out | exact H3.out | (refine Below.setCell ?_ (by first | (simp; done) | (simp; omega)) _) | (refine Below.alloc ?_ (by first | (have := H2.out.size; omega) | (have := H2.out.size; simp; omega)) _)))⟩
    · have G3 := hid g3
      clear g3
      refine (spanOk_spec _ _ _).mono ?_
      rintro e w3 ⟨rfl, hb⟩
      rw [G3.out]
      obtain ⟨zs, ks, ks', _, _⟩ := Boxf.next (boxf_new w2 _ _ _) hb
      have H3 := hid (bthen (w := w) (by repeat (first | exact H2.out | exact H1.out | exact H2.out | (refine Below.setCell ?_ (by first | (simp; done) | (simp; omega)) _) | (refine Below.alloc ?_ (by first | (have := H2.out.size; omega) | (have := H2.out.size; simp; omega)) _))) hb)
      clear za ka ka' fa fa' zb kb kb' fb fb' zc kc kc' fc fc'
      obtain ⟨zc, kc, kc', fc, fc'⟩ := Boxf.next (B := w.heap.size + 1 + 1) (a := .float .f32 0) (b := .float .f32 0) (by repeat (first | exact A3.out | refine Boxf.alloc ?_ _)) hb
      clear hb A1 A2 A3
      go_wp2
      exact bodyPost_ret (v := noSpan) (by simp [results, Try.results39, go_sem, kc, kc']) rfl ⟨by have e1 : Fl.gt .f32 c a = true := G1.out; have e2 : Fl.lt .f32 d b = true := G2.out; have e3 : Fl.le .f32 c d = false := G3.out; unfold meetV; rw [H0.out, H1'.out, e1, e2]; simp [e3], (by repeat (first | exact H2.out | exact H1.out | exact H3.out | (refine Below.setCell ?_ (by first | (simp; done) | (simp; omega)) _) | (refine Below.alloc ?_ (by first | (have := H2.out.size; omega) | (have := H2.out.size; simp; omega)) _)))⟩
  · rcases Bool.eq_false_or_eq_true (Fl.le .f32 c b) with g3 | g3
    · have G3 := hid g3
      clear g3
      refine (spanOk_spec _ _ _).mono ?_
      rintro e w3 ⟨rfl, hb⟩
      rw [G3.out]
      obtain ⟨zs, ks, ks', _, _⟩ := Boxf.next (boxf_new w2 _ _ _) hb
      have H3 := hid (bthen (w := w) (by repeat (first | exact H2.out | exact H1.out | exact H2.out | (refine Below.setCell ?_ (by first | (simp; done) | (simp; omega)) _) | (refine Below.alloc ?_ (by first | (have := H2.out.size; omega) | (have := H2.out.size; simp; omega)) _))) hb)
      clear za ka ka' fa fa' zb kb kb' fb fb' zc kc kc' fc fc'
      obtain ⟨zc, kc, kc', fc, fc'⟩ := Boxf.next (B := w.heap.size + 1 + 1) (a := .float .f32 0) (b := .float .f32 0) (by repeat (first | exact A3.out | refine Boxf.alloc ?_ _)) hb
      clear hb A1 A2 A3
      go_wp2
      exact bodyPost_ret (v := .tuple #[spanV c b, .bool true]) (by simp [results, Try.results39, go_sem, kc, kc']) rfl ⟨by have e1 : Fl.gt .f32 c a = true := G1.out; have e2 : Fl.lt .f32 d b = false := G2.out; have e3 : Fl.le .f32 c b = true := G3.out; unfold meetV; rw [H0.out, H1'.out, e1, e2]; simp [e3], (by repeat (first | exact H2.out | exact H1.out | exact H3.out | (refine Below.setCell ?_ (by first | (simp; done) | (simp; omega)) _) | (refine Below.alloc ?_ (by first | (have := H2.out.size; omega) | (have := H2.out.size; simp; omega)) _)))⟩
    · have G3 := hid g3
      clear g3
      refine (spanOk_spec _ _ _).mono ?_
      rintro e w3 ⟨rfl, hb⟩
      rw [G3.out]
      obtain ⟨zs, ks, ks', _, _⟩ := Boxf.next (boxf_new w2 _ _ _) hb
      have H3 := hid (bthen (w := w) (by repeat (first | exact H2.out | exact H1.out | exact H2.out | (refine Below.setCell ?_ (by first | (simp; done) | (simp; omega)) _) | (refine Below.alloc ?_ (by first | (have := H2.out.size; omega) | (have := H2.out.size; simp; omega)) _))) hb)
      clear za ka ka' fa fa' zb kb kb' fb fb' zc kc kc' fc fc'
      obtain ⟨zc, kc, kc', fc, fc'⟩ := Boxf.next (B := w.heap.size + 1 + 1) (a := .float .f32 0) (b := .float .f32 0) (by repeat (first | exact A3.out | refine Boxf.alloc ?_ _)) hb
      clear hb A1 A2 A3
      go_wp2
      exact bodyPost_ret (v := noSpan) (by simp [results, Try.results39, go_sem, kc, kc']) rfl ⟨by have e1 : Fl.gt .f32 c a = true := G1.out; have e2 : Fl.lt .f32 d b = false := G2.out; have e3 : Fl.le .f32 c b = false := G3.out; unfold meetV; rw [H0.out, H1'.out, e1, e2]; simp [e3], (by repeat (first | exact H2.out | exact H1.out | exact H3.out | (refine Below.setCell ?_ (by first | (simp; done) | (simp; omega)) _) | (refine Below.alloc ?_ (by first | (have := H2.out.size; omega) | (have := H2.out.size; simp; omega)) _)))⟩
  · rcases Bool.eq_false_or_eq_true (Fl.le .f32 a d) with g3 | g3
    · have G3 := hid g3
      clear g3
      refine (spanOk_spec _ _ _).mono ?_
      rintro e w3 ⟨rfl, hb⟩
      rw [G3.out]
      obtain ⟨zs, ks, ks', _, _⟩ := Boxf.next (boxf_new w2 _ _ _) hb
      have H3 := hid (bthen (w := w) (by repeat (first | exact H2.out | exact H1.out | exact H2.out | (refine Below.setCell ?_ (by first | (simp; done) | (simp; omega)) _) | (refine Below.alloc ?_ (by first | (have := H2.out.size; omega) | (have := H2.out.size; simp; omega)) _))) hb)
      clear za ka ka' fa fa' zb kb kb' fb fb' zc kc kc' fc fc'
      obtain ⟨zc, kc, kc', fc, fc'⟩ := Boxf.next (B := w.heap.size + 1 + 1) (a := .float .f32 0) (b := .float .f32 0) (by repeat (first | exact A3.out | refine Boxf.alloc ?_ _)) hb
      clear hb A1 A2 A3
      go_wp2
      exact bodyPost_ret (v := .tuple #[spanV a d, .bool true]) (by simp [results, Try.results39, go_sem, kc, kc']) rfl ⟨by have e1 : Fl.gt .f32 c a = false := G1.out; have e2 : Fl.lt .f32 d b = true := G2.out; have e3 : Fl.le .f32 a d = true := G3.out; unfold meetV; rw [H0.out, H1'.out, e1, e2]; simp [e3], (by repeat (first | exact H2.out | exact H1.out | exact H3.out | (refine Below.setCell ?_ (by first | (simp; done) | (simp; omega)) _) | (refine Below.alloc ?_ (by first | (have := H2.out.size; omega) | (have := H2.out.size; simp; omega)) _)))⟩
    · have G3 := hid g3
      clear g3
      refine (spanOk_spec _ _ _).mono ?_
      rintro e w3 ⟨rfl, hb⟩
      rw [G3.out]
      obtain ⟨zs, ks, ks', _, _⟩ := Boxf.next (boxf_new w2 _ _ _) hb
      have H3 := hid (bthen (w := w) (by repeat (first | exact H2.out | exact H1.out | exact H2.out | (refine Below.setCell ?_ (by first | (simp; done) | (simp; omega)) _) | (refine Below.alloc ?_ (by first | (have := H2.out.size; omega) | (have := H2.out.size; simp; omega)) _))) hb)
      clear za ka ka' fa fa' zb kb kb' fb fb' zc kc kc' fc fc'
      obtain ⟨zc, kc, kc', fc, fc'⟩ := Boxf.next (B := w.heap.size + 1 + 1) (a := .float .f32 0) (b := .float .f32 0) (by repeat (first | exact A3.out | refine Boxf.alloc ?_ _)) hb
      clear hb A1 A2 A3
      go_wp2
      exact bodyPost_ret (v := noSpan) (by simp [results, Try.results39, go_sem, kc, kc']) rfl ⟨by have e1 : Fl.gt .f32 c a = false := G1.out; have e2 : Fl.lt .f32 d b = true := G2.out; have e3 : Fl.le .f32 a d = false := G3.out; unfold meetV; rw [H0.out, H1'.out, e1, e2]; simp [e3], (by repeat (first | exact H2.out | exact H1.out | exact H3.out | (refine Below.setCell ?_ (by first | (simp; done) | (simp; omega)) _) | (refine Below.alloc ?_ (by first | (have := H2.out.size; omega) | (have := H2.out.size; simp; omega)) _)))⟩
  · rcases Bool.eq_false_or_eq_true (Fl.le .f32 a b) with g3 | g3
    · have G3 := hid g3
      clear g3
      refine (spanOk_spec _ _ _).mono ?_
      rintro e w3 ⟨rfl, hb⟩
      rw [G3.out]
      obtain ⟨zs, ks, ks', _, _⟩ := Boxf.next (boxf_new w2 _ _ _) hb
      have H3 := hid (bthen (w := w) (by repeat (first | exact H2.out | exact H1.out | exact H2.out | (refine Below.setCell ?_ (by first | (simp; done) | (simp; omega)) _) | (refine Below.alloc ?_ (by first | (have := H2.out.size; omega) | (have := H2.out.size; simp; omega)) _))) hb)
      clear za ka ka' fa fa' zb kb kb' fb fb' zc kc kc' fc fc'
      obtain ⟨zc, kc, kc', fc, fc'⟩ := Boxf.next (B := w.heap.size + 1 + 1) (a := .float .f32 0) (b := .float .f32 0) (by repeat (first | exact A3.out | refine Boxf.alloc ?_ _)) hb
      clear hb A1 A2 A3
      go_wp2
      exact bodyPost_ret (v := .tuple #[spanV a b, .bool true]) (by simp [results, Try.results39, go_sem, kc, kc']) rfl ⟨by have e1 : Fl.gt .f32 c a = false := G1.out; have e2 : Fl.lt .f32 d b = false := G2.out; have e3 : Fl.le .f32 a b = true := G3.out; unfold meetV; rw [H0.out, H1'.out, e1, e2]; simp [e3], (by repeat (first | exact H2.out | exact H1.out | exact H3.out | (refine Below.setCell ?_ (by first | (simp; done) | (simp; omega)) _) | (refine Below.alloc ?_ (by first | (have := H2.out.size; omega) | (have := H2.out.size; simp; omega)) _)))⟩
    · have G3 := hid g3
      clear g3
      refine (spanOk_spec _ _ _).mono ?_
      rintro e w3 ⟨rfl, hb⟩
      rw [G3.out]
      obtain ⟨zs, ks, ks', _, _⟩ := Boxf.next (boxf_new w2 _ _ _) hb
      have H3 := hid (bthen (w := w) (by repeat (first | exact H2.out | exact H1.out | exact H2.out | (refine Below.setCell ?_ (by first | (simp; done) | (simp; omega)) _) | (refine Below.alloc ?_ (by first | (have := H2.out.size; omega) | (have := H2.out.size; simp; omega)) _))) hb)
      clear za ka ka' fa fa' zb kb kb' fb fb' zc kc kc' fc fc'
      obtain ⟨zc, kc, kc', fc, fc'⟩ := Boxf.next (B := w.heap.size + 1 + 1) (a := .float .f32 0) (b := .float .f32 0) (by repeat (first | exact A3.out | refine Boxf.alloc ?_ _)) hb
      clear hb A1 A2 A3
      go_wp2
      exact bodyPost_ret (v := noSpan) (by simp [results, Try.results39, go_sem, kc, kc']) rfl ⟨by have e1 : Fl.gt .f32 c a = false := G1.out; have e2 : Fl.lt .f32 d b = false := G2.out; have e3 : Fl.le .f32 a b = false := G3.out; unfold meetV; rw [H0.out, H1'.out, e1, e2]; simp [e3], (by repeat (first | exact H2.out | exact H1.out | exact H3.out | (refine Below.setCell ?_ (by first | (simp; done) | (simp; omega)) _) | (refine Below.alloc ?_ (by first | (have := H2.out.size; omega) | (have := H2.out.size; simp; omega)) _)))⟩

end Go.Proofs.Ytecmdbbppinamaa
