/- Two floats that are the same but for which NaN they are, are told the same by the law's sameFloat. -/
import Derived.Test.YtbloipnpgncjiaaFin
namespace Go.Proofs.Ytbloipnpgncjiaa
open Go.RowKit

set_option maxHeartbeats 400000 in
theorem same_nan (a b : Nat) (w : World) (ha : Fl.nan .f64 a = true) (hb : Fl.nan .f64 b = true) :
    Calls Try.prog 42 #[.float .f64 a, .float .f64 b] w fun e w' => e = .returned (.bool true) ∧ Drew w w' := by
  have o1 : FloatKind.f64.format.order a a = none := Fl.order_none .f64 (.inl ha)
  have o2 : FloatKind.f64.format.order b b = none := Fl.order_none .f64 (.inl hb)
  clear ha hb
  go_enter Try.func42, Try.ntmps42
  go_wp2
  go_ret
  exact ⟨rfl, 0, rfl⟩

set_option maxHeartbeats 400000 in
theorem same_eq (a : Nat) (w : World) (ha : Fl.nan .f64 a = false) :
    Calls Try.prog 42 #[.float .f64 a, .float .f64 a] w fun e w' => e = .returned (.bool true) ∧ Drew w w' := by
  have o1 : FloatKind.f64.format.order a a = some .eq := by rw [Fl.order_self, ha]; rfl
  clear ha
  cases hz : (FloatKind.f64.format.order a 0 == some .eq)
  · go_enter Try.func42, Try.ntmps42
    go_wp2
    go_ret
    exact ⟨rfl, 0, rfl⟩
  · go_enter Try.func42, Try.ntmps42
    go_wp2
    refine upon_arith (.inr (.inr (.inr rfl))) ?_
    intro r n hr
    go_wp2
    refine upon_arith (.inr (.inr (.inr rfl))) ?_
    intro r2 n2 hr2
    go_wp2
    go_ret
    refine ⟨?_, _, rfl⟩
    show Ending.returned (.bool (Fl.gt .f64 r 0 == Fl.gt .f64 r2 0)) = _
    have h : Fl.gt .f64 r 0 = Fl.gt .f64 r2 0 := by
      unfold Fl.gt
      rw [Fl.order_eqv .f64 (hr.eqv.trans _ hr2.eqv.symm) (Fl.Eqv.refl _ 0)]
    rw [h]; simp

theorem same_any (a b : Nat) (w : World) (h : Fl.Eqv .f64 a b) :
    Calls Try.prog 42 #[.float .f64 a, .float .f64 b] w fun e w' => e = .returned (.bool true) ∧ Drew w w' := by
  rcases h with rfl | ⟨h1, h2⟩
  · cases ha : Fl.nan .f64 a
    · exact same_eq a w ha
    · exact same_nan a a w ha ha
  · exact same_nan a b w h1 h2

end Go.Proofs.Ytbloipnpgncjiaa
