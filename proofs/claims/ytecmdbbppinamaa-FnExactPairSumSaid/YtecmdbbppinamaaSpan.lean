/- The contracts of the functions on spans. -/
import Derived.Test.YtecmdbbppinamaaSame
namespace Go.Proofs.Ytecmdbbppinamaa
open Go.RowKit

set_option maxHeartbeats 400000 in
theorem spanOk_impl (l h : Nat) (w : World) :
    Calls Try.prog 24 #[.agg #[.float .f32 l, .float .f32 h]] w fun e w' => e = .returned (.bool (Fl.le .f32 l h)) ∧ Below w.heap.size w w' := by
  go_enter Try.func24, Try.ntmps24
  go_wp2
  go_ret
  refine ⟨rfl, ?_⟩
  exact (Below.refl _ _).alloc (Nat.le_refl _) _

set_option maxHeartbeats 400000 in
theorem spanOk_spec (l h : Nat) (w : World) :
    Calls Try.prog 22 #[.agg #[.float .f32 l, .float .f32 h]] w fun e w' => e = .returned (.bool (Fl.le .f32 l h)) ∧ Below w.heap.size w w' := by
  go_enter Try.func22, Try.ntmps22
  go_wp2
  go_ret
  refine ⟨rfl, ?_⟩
  exact (Below.refl _ _).alloc (Nat.le_refl _) _

set_option maxHeartbeats 400000 in
theorem toSpan_any (l h : Nat) (w : World) :
    Calls Try.prog 23 #[.agg #[.float .f32 l, .float .f32 h]] w fun e w' => e = .returned (.agg #[.float .f32 l, .float .f32 h]) ∧ Below w.heap.size w w' := by
  go_enter Try.func23, Try.ntmps23
  go_wp2
  exact bodyPost_ret (v := .agg #[.float .f32 l, .float .f32 h]) (by simp [results, Try.results23, go_sem]) rfl ⟨rfl, (((Below.refl _ _).alloc (Nat.le_refl _) _).alloc (by simp) _).alloc (by simp; omega) _⟩

theorem bcell {W w1 : World} (hb : Below W.heap.size W w1) : (∀ b o, b < W.heap.size → w1.cell? ⟨b, o, none⟩ = W.cell? ⟨b, o, none⟩) ∧ (∀ b o, b < W.heap.size → w1.frozen? ⟨b, o, none⟩ = W.frozen? ⟨b, o, none⟩) :=
  ⟨fun b o h => hb.cell (p := ⟨b, o, none⟩) h, fun b o h => hb.frozen (p := ⟨b, o, none⟩) h⟩

/-- a box of two cells -/
def Box2 (w : World) (B : Nat) (a b : Value) : Prop := B < w.heap.size ∧ w.cell? ⟨B, 0, none⟩ = some a ∧ w.cell? ⟨B, 1, none⟩ = some b
theorem Box2.next {W w1 : World} {B : Nat} {a b : Value} (h : Box2 W B a b) (hb : Below W.heap.size W w1) : Box2 w1 B a b :=
  ⟨Nat.lt_of_lt_of_le h.1 hb.size, (hb.cell (p := ⟨B, 0, none⟩) h.1).trans h.2.1, (hb.cell (p := ⟨B, 1, none⟩) h.1).trans h.2.2⟩
theorem box2_new (w : World) (a b : Value) (t : TypeId) : Box2 (w.alloc (.cells #[a, b] t)) w.heap.size a b := ⟨by simp, by simp, by simp⟩
theorem below_new (w : World) (o : Obj) : Below w.heap.size w (w.alloc o) := (Below.refl _ _).alloc (Nat.le_refl _) o
theorem bthen {w w1 w2 : World} (h : Below w.heap.size w w1) (h' : Below w1.heap.size w1 w2) : Below w.heap.size w w2 := h.trans (h'.mono h.size)

set_option maxHeartbeats 400000 in
theorem law_spanOk (l h : Nat) (w : World) :
    Calls Try.prog 3 #[.agg #[.float .f32 l, .float .f32 h]] w fun e w' => e = .returned (.bool true) ∧ Below w.heap.size w w' := by
  go_enter Try.func3, Try.ntmps3
  go_wp2_with fail
  refine (toSpan_any _ _ _).mono ?_
  rintro e w1 ⟨rfl, hb⟩
  have H1 := hid (bthen (below_new _ _) hb)
  obtain ⟨z1, k1, k1'⟩ := (box2_new _ _ _ _).next hb
  clear hb
  go_wp2_with fail
  refine (spanOk_spec _ _ _).mono ?_
  rintro e w2 ⟨rfl, hb⟩
  have H2 := hid (bthen H1.out hb)
  obtain ⟨z2, k2, k2'⟩ := Box2.next ⟨z1, k1, k1'⟩ hb
  clear hb H1 z1 k1 k1'
  go_wp2_with fail
  refine (toSpan_any _ _ _).mono ?_
  rintro e w3 ⟨rfl, hb⟩
  have H3 := hid (bthen H2.out hb)
  clear hb H2 z2 k2 k2'
  go_wp2_with fail
  refine (spanOk_impl _ _ _).mono ?_
  rintro e w4 ⟨rfl, hb⟩
  have H4 := hid (bthen H3.out hb)
  clear hb H3
  go_wp2
  go_ret
  exact ⟨rfl, H4.out⟩
end Go.Proofs.Ytecmdbbppinamaa
