/- The contracts of the functions on spans. -/
import Derived.Test.YtecmdbbppinamaaSame
import Derived.Test.YtecmdbbppinamaaBox
namespace Go.Proofs.Ytecmdbbppinamaa
open Go.RowKit

set_option maxHeartbeats 400000 in
theorem spanOk_impl (l h : Nat) (w : World) :
    Calls Try.prog 24 #[.agg #[.float .f32 l, .float .f32 h]] w fun e w' => e = .returned (.bool (Fl.le .f32 l h)) ∧ Below w.heap.size w w' := by
  go_enter Try.func24, Try.ntmps24
  go_wp2
  go_ret
  refine ⟨rfl, ?_⟩
  exact (Below.refl _ _).alloc (Nat.le_refl _) _

set_option maxHeartbeats 400000 in
theorem spanOk_spec (l h : Nat) (w : World) :
    Calls Try.prog 22 #[.agg #[.float .f32 l, .float .f32 h]] w fun e w' => e = .returned (.bool (Fl.le .f32 l h)) ∧ Below w.heap.size w w' := by
  go_enter Try.func22, Try.ntmps22
  go_wp2
  go_ret
  refine ⟨rfl, ?_⟩
  exact (Below.refl _ _).alloc (Nat.le_refl _) _

set_option maxHeartbeats 400000 in
theorem toSpan_any (l h : Nat) (w : World) :
    Calls Try.prog 23 #[.agg #[.float .f32 l, .float .f32 h]] w fun e w' => e = .returned (.agg #[.float .f32 l, .float .f32 h]) ∧ Below w.heap.size w w' := by
  go_enter Try.func23, Try.ntmps23
  go_wp2
  exact bodyPost_ret (v := .agg #[.float .f32 l, .float .f32 h]) (by simp [results, Try.results23, go_sem]) rfl ⟨rfl, (((Below.refl _ _).alloc (Nat.le_refl _) _).alloc (by simp) _).alloc (by simp; omega) _⟩

set_option maxHeartbeats 400000 in
theorem law_spanOk (l h : Nat) (w : World) :
    Calls Try.prog 3 #[.agg #[.float .f32 l, .float .f32 h]] w fun e w' => e = .returned (.bool true) ∧ Below w.heap.size w w' := by
  go_enter Try.func3, Try.ntmps3
  go_wp2_with fail
  refine (toSpan_any _ _ _).mono ?_
  rintro e w1 ⟨rfl, hb⟩
  have H1 := hid (bthen (below_new _ _) hb)
  obtain ⟨z1, k1, k1'⟩ := (box2_new _ _ _ _).next hb
  clear hb
  go_wp2_with fail
  refine (spanOk_spec _ _ _).mono ?_
  rintro e w2 ⟨rfl, hb⟩
  have H2 := hid (bthen H1.out hb)
  obtain ⟨z2, k2, k2'⟩ := Box2.next ⟨z1, k1, k1'⟩ hb
  clear hb H1 z1 k1 k1'
  go_wp2_with fail
  refine (toSpan_any _ _ _).mono ?_
  rintro e w3 ⟨rfl, hb⟩
  have H3 := hid (bthen H2.out hb)
  clear hb H2 z2 k2 k2'
  go_wp2_with fail
  refine (spanOk_impl _ _ _).mono ?_
  rintro e w4 ⟨rfl, hb⟩
  have H4 := hid (bthen H3.out hb)
  clear hb H3
  go_wp2
  go_ret
  exact ⟨rfl, H4.out⟩
end Go.Proofs.Ytecmdbbppinamaa
