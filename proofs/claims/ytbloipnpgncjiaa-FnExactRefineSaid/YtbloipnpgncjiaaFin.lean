/- The finiteness tests of the program and of the reference are one. -/
import Derived.Test.YtbloipnpgncjiaaArm
namespace Go.Proofs.Ytbloipnpgncjiaa
open Go.RowKit

/-- some draws of the tape and nothing else -/
def Drew (w w' : World) : Prop := ∃ n, w' = w.drewN n
theorem Drew.below {w w' : World} (h : Drew w w') (B : Nat) : Below B w w' := by
  obtain ⟨n, rfl⟩ := h
  exact below_drewN (Below.refl _ _) n

theorem some_f32 : (Try.prog.underlying 25).isSome = true := by rw [Try.underlying25]; rfl
theorem some_f64 : (Try.prog.underlying 51).isSome = true := by rw [Try.underlying51]; rfl

def fin32 (x : Nat) : Bool := Fl.fin Ieee.single x

set_option maxHeartbeats 400000 in
theorem fine_any (a : Nat) (w : World) :
    Calls Try.prog 81 #[.float .f64 a] w fun e w' => e = .returned (.bool (finB a)) ∧ Drew w w' := by
  go_enter Try.func81, Try.ntmps81
  go_wp2
  refine upon_arith (.inr (.inl rfl)) ?_
  intro r n hr
  go_wp2
  go_ret
  refine ⟨?_, n, rfl⟩
  show Ending.returned (.bool (Fl.eq .f64 r 0)) = _
  rw [Fl.fine_sub hr]; rfl

set_option maxRecDepth 20000 in
set_option maxHeartbeats 400000 in
theorem finiteSingle_any (a : Nat) (w : World) :
    Calls Try.prog 78 #[.float .f32 a] w fun e w' => e = .returned (.bool (fin32 a)) ∧ Drew w w' := by
  go_enter Try.func78, Try.ntmps78
  go_wp2_with fail
  refine upon_widen some_f32 Try.underlying51 ?_
  intro r n hr
  go_wp2_with (go_at_call 90; refine (finite_any _ _ hr.1).mono ?_; rintro e w' ⟨rfl, rfl⟩)
  go_ret
  refine ⟨?_, n, rfl⟩
  show Ending.returned (.bool (finB r)) = _
  unfold finB
  rw [hr.fin32]; rfl

end Go.Proofs.Ytbloipnpgncjiaa
