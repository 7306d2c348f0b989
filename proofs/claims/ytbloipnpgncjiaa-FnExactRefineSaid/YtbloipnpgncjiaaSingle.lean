/- A single of all kinds that is drawn: l01Single of the reference. -/
import Derived.Test.YtbloipnpgncjiaaMake
namespace Go.Proofs.Ytbloipnpgncjiaa
open Go.RowKit

set_option maxRecDepth 20000 in
set_option maxHeartbeats 4000000 in
theorem single_any (p : Nat) (w : World) (hc : Cur w p) :
    Calls Try.prog 107 #[.pointer (some ⟨p, 0, none⟩)] w fun e w' => ∃ x : Nat, e = .returned (.float .f32 x) ∧ Cur w' p ∧ Upd p w w' := by
  have HC := hid hc
  clear hc
  go_enter Try.func107, Try.ntmps107
  go_wp2_with fail
  refine (below_any _ _ _ HC.out (by decide) (by decide)).mono ?_
  rintro e w1 ⟨a, rfl, a0, a1, hc1, hu1⟩
  obtain ⟨x, rfl⟩ := Int.eq_ofNat_of_zero_le a0
  have HC1 := hid hc1
  have HU1 := hid hu1
  clear hc1 hu1
  have hx : x = 0 ∨ x = 1 ∨ x = 2 ∨ x = 3 ∨ x = 4 ∨ x = 5 ∨ x = 6 ∨ x = 7 ∨ x = 8 ∨ x = 9 ∨ 10 ≤ x := by omega
  rcases hx with rfl | rfl | rfl | rfl | rfl | rfl | rfl | rfl | rfl | rfl | hx
  case' inr.inr.inr.inr.inr.inr.inr.inr.inr.inr =>
    have n0 : ¬ ((x : Int) = 0) := by omega
    have n1 : ¬ ((x : Int) = 1) := by omega
    have n2 : ¬ ((x : Int) = 2) := by omega
    have n3 : ¬ ((x : Int) = 3) := by omega
    have n4 : ¬ ((x : Int) = 4) := by omega
    have n5 : ¬ ((x : Int) = 5) := by omega
    have n6 : ¬ ((x : Int) = 6) := by omega
    have n7 : ¬ ((x : Int) = 7) := by omega
    have n8 : ¬ ((x : Int) = 8) := by omega
    have n9 : ¬ ((x : Int) = 9) := by omega
    clear hx a0 a1
  all_goals go_wp2_with fail
  · refine (mild_any _ _ HC1.out).mono ?_
    rintro e w2 ⟨y, rfl, hy, hc2, hu2⟩
    have HC2 := hid hc2
    have HU2 := hid (HU1.out.trans hu2)
    clear hc2 hu2 hy
    go_wp2_with fail
    go_ret
    exact ⟨_, rfl, HC2.out, HU2.out⟩
  · go_ret
    exact ⟨_, rfl, HC1.out, HU1.out⟩
  · go_ret
    exact ⟨_, rfl, HC1.out, HU1.out⟩
  · refine upon_arith (.inr (.inr (.inr rfl))) ?_
    intro r n hr
    clear hr
    go_wp2_with fail
    go_ret
    exact ⟨_, rfl, HC1.out.drewN _, HU1.out.drewN _⟩
  · refine upon_arith (.inr (.inr (.inr rfl))) ?_
    intro r n hr
    clear hr
    go_wp2_with fail
    go_ret
    exact ⟨_, rfl, HC1.out.drewN _, HU1.out.drewN _⟩
  · refine upon_arith (.inr (.inr (.inr rfl))) ?_
    intro r n hr
    clear hr
    go_wp2_with fail
    go_ret
    exact ⟨_, rfl, HC1.out.drewN _, HU1.out.drewN _⟩
  · go_ret
    exact ⟨_, rfl, HC1.out, HU1.out⟩
  · refine (make_any _ (.inl rfl) 1 (by decide) (-149) (by decide) (by decide) _).mono ?_
    rintro e w2 ⟨y, b, rfl, hy, n, rfl⟩
    clear hy
    go_wp2_with fail
    go_ret
    exact ⟨_, rfl, HC1.out.drewN _, HU1.out.drewN _⟩
  · refine (below_any _ _ _ HC1.out (by decide) (by decide)).mono ?_
    rintro e w2 ⟨b, rfl, b0, b1, hc2, hu2⟩
    obtain ⟨y, rfl⟩ := Int.eq_ofNat_of_zero_le b0
    have HC2 := hid hc2
    have HU2 := hid (HU1.out.trans hu2)
    clear hc2 hu2
    go_wp2_with fail
    refine (below_any _ _ _ HC2.out (by decide) (by decide)).mono ?_
    rintro e w3 ⟨c, rfl, c0, c1, hc3, hu3⟩
    have HC3 := hid hc3
    have HU3 := hid (HU2.out.trans hu3)
    clear hc3 hu3
    go_wp2_with fail
    have ey : (1 : Int) + (y : Int) = ((y + 1 : Nat) : Int) := by omega
    have ey' : (y : Int) + 1 = ((y + 1 : Nat) : Int) := by omega
    first | rw [ey] | rw [ey'] | skip
    refine (make_any _ (.inr rfl) (y + 1) (by omega) (c - 149) (by omega) (by omega) _).mono ?_
    rintro e w4 ⟨z, b, rfl, hz, n, rfl⟩
    clear hz ey ey'
    go_wp2_with fail
    go_ret
    exact ⟨_, rfl, HC3.out.drewN _, HU3.out.drewN _⟩
  · refine (below_any _ _ _ HC1.out (by decide) (by decide)).mono ?_
    rintro e w2 ⟨b, rfl, b0, b1, hc2, hu2⟩
    obtain ⟨y, rfl⟩ := Int.eq_ofNat_of_zero_le b0
    have HC2 := hid hc2
    have HU2 := hid (HU1.out.trans hu2)
    clear hc2 hu2
    go_wp2_with fail
    refine (below_any _ _ _ HC2.out (by decide) (by decide)).mono ?_
    rintro e w3 ⟨c, rfl, c0, c1, hc3, hu3⟩
    have HC3 := hid hc3
    have HU3 := hid (HU2.out.trans hu3)
    clear hc3 hu3
    go_wp2_with fail
    have ey : (1 : Int) + (y : Int) = ((y + 1 : Nat) : Int) := by omega
    have ey' : (y : Int) + 1 = ((y + 1 : Nat) : Int) := by omega
    first | rw [ey] | rw [ey'] | skip
    refine (make_any _ (.inl rfl) (y + 1) (by omega) (c - 30) (by omega) (by omega) _).mono ?_
    rintro e w4 ⟨z, b, rfl, hz, n, rfl⟩
    clear hz ey ey'
    go_wp2_with fail
    go_ret
    exact ⟨_, rfl, HC3.out.drewN _, HU3.out.drewN _⟩
  · refine (below_any _ _ _ HC1.out (by decide) (by decide)).mono ?_
    rintro e w2 ⟨b, rfl, b0, b1, hc2, hu2⟩
    obtain ⟨y, rfl⟩ := Int.eq_ofNat_of_zero_le b0
    have HC2 := hid hc2
    have HU2 := hid (HU1.out.trans hu2)
    clear hc2 hu2
    go_wp2_with fail
    refine (below_any _ _ _ HC2.out (by decide) (by decide)).mono ?_
    rintro e w3 ⟨c, rfl, c0, c1, hc3, hu3⟩
    have HC3 := hid hc3
    have HU3 := hid (HU2.out.trans hu3)
    clear hc3 hu3
    go_wp2_with fail
    have ey : (1 : Int) + (y : Int) = ((y + 1 : Nat) : Int) := by omega
    have ey' : (y : Int) + 1 = ((y + 1 : Nat) : Int) := by omega
    first | rw [ey] | rw [ey'] | skip
    refine (make_any _ (.inl rfl) (y + 1) (by omega) (c - 30) (by omega) (by omega) _).mono ?_
    rintro e w4 ⟨z, b, rfl, hz, n, rfl⟩
    clear hz ey ey'
    go_wp2_with fail
    go_ret
    exact ⟨_, rfl, HC3.out.drewN _, HU3.out.drewN _⟩
end Go.Proofs.Ytbloipnpgncjiaa
