/- A narrow complex number that is drawn: l01Narrow, DrawSwap of the reference. -/
import Derived.Test.YtbloipnpgncjiaaSingle
import Derived.Test.YtbloipnpgncjiaaOwnP
namespace Go.Proofs.Ytbloipnpgncjiaa
open Go.RowKit

set_option maxRecDepth 20000 in
set_option maxHeartbeats 1000000 in
theorem narrow_any (p : Nat) (w : World) (hc : Cur w p) :
    Calls Try.prog 88 #[.pointer (some ⟨p, 0, none⟩)] w fun e w' => ∃ x y : Nat, e = .returned (.complex .f32 x y) ∧ Cur w' p ∧ Upd p w w' := by
  have HC := hid hc
  clear hc
  go_enter Try.func88, Try.ntmps88
  go_wp2_with fail
  refine (single_any _ _ HC.out).mono ?_
  rintro e w1 ⟨x, rfl, hc1, hu1⟩
  have HC1 := hid hc1
  have HU1 := hid hu1
  clear hc1 hu1
  go_wp2_with fail
  refine (single_any _ _ HC1.out).mono ?_
  rintro e w2 ⟨y, rfl, hc2, hu2⟩
  have HC2 := hid hc2
  have HU2 := hid (HU1.out.trans hu2)
  clear hc2 hu2
  go_wp2_with fail
  go_ret
  exact ⟨x, y, rfl, HC2.out, HU2.out⟩

set_option maxRecDepth 20000 in
set_option maxHeartbeats 1000000 in
theorem drawC_any (A : Option Addr) (n c : Nat) (w : World) (hb : Byts w w.heap.size A n) (hn : n ≤ 1048576) :
    Calls Try.prog 52 #[.slice A n c] w fun e w' => ∃ x y : Nat, e = .returned (.complex .f32 x y) ∧ Below w.heap.size w w' := by
  have HB := hid hb
  clear hb
  go_enter Try.func52, Try.ntmps52
  go_wp2_with fail
  refine (new_any _ _ _ _ HB.out hn).mono ?_
  rintro e w1 ⟨p, rfl, hp, hc1, hb1⟩
  have HC1 := hid hc1
  have HB1 := hid hb1
  clear hc1 hb1
  go_wp2_with fail
  refine (narrow_any _ _ HC1.out).mono ?_
  rintro e w2 ⟨x, y, rfl, hc2, hu2⟩
  have HB2 := hid (HB1.out.trans (hu2.1.mono hp))
  clear hc2 hu2
  go_wp2_with fail
  go_ret
  exact ⟨x, y, rfl, HB2.out⟩
end Go.Proofs.Ytbloipnpgncjiaa
