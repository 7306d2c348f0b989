/- The law of MiddleOf: it answers true for every list of singles. -/
import Derived.Test.YtgenphbackbepaaMidAll
namespace Go.Proofs.Ytgenphbackbepaa
open Go.RowKit

set_option maxHeartbeats 1000000 in
theorem law_middle (A : Option Addr) (l c : Nat) (xs : List Nat) (hl : l = xs.length) (hx : l ≤ 9223372036854775807) (w : World) (ha : Sing w w.heap.size A xs) (_ : ∀ x ∈ xs, x < 4294967296) :
    Calls Try.prog 10 #[.slice A l c] w fun e w' => e = .returned (.bool true) ∧ Below w.heap.size w w' := by
  subst hl
  have HA := hid ha
  clear ha
  by_cases hb : xs.length ≤ 1048576
  · have hbz : (xs.length : Int) ≤ 1048576 := by omega
    go_enter Try.func10, Try.ntmps10
    go_wp2_with fail
    refine (toS_any _ _ _ _ HA.out hb).mono ?_
    rintro e w1 ⟨g1, rfl, hg1, hs1, hb1⟩
    have H1 := hid hb1
    have HA1 := hid ((HA.out.below hb1).more hb1.size)
    clear hb1 HA
    go_wp2_with fail
    refine (middle_spec _ _ _ _ hs1 hb).mono ?_
    rintro e w1b ⟨r1, rfl, _, q1, hb1⟩
    have Q1 := hid q1
    have H1b := hid (bthen H1.out hb1)
    have HA1b := hid ((HA1.out.below hb1).more hb1.size)
    clear hb1 HA1 H1 hs1 q1
    go_wp2_with fail
    refine (toS_any _ _ _ _ HA1b.out hb).mono ?_
    rintro e w2 ⟨g2, rfl, hg2, hs2, hb2⟩
    have H2 := hid (bthen H1b.out hb2)
    have HA2 := hid ((HA1b.out.below hb2).more hb2.size)
    clear hb2 HA1b H1b
    go_wp2_with fail
    refine (middle_impl _ _ _ _ hs2 hb).mono ?_
    rintro e w2b ⟨r2, rfl, _, q2, hb2⟩
    have Q2 := hid q2
    have H2b := hid (bthen H2.out hb2)
    have HA2b := hid ((HA2.out.below hb2).more hb2.size)
    have hs2b := (hs2.below hb2).more hb2.size
    clear hb2 HA2 H2 q2 hs2
    go_wp2_with fail
    refine upon_widen some_f32 Try.underlying28 ?_
    intro r3 n3 hr3
    have E3 := hid (Fl.Res.wid hr3 Q2.out)
    clear hr3
    go_wp2_with fail
    refine upon_widen some_f32 Try.underlying28 ?_
    intro r4 n4 hr4
    have E4 := hid (Fl.Res.wid hr4 Q1.out)
    clear hr4
    go_wp2_with fail
    refine (same_any _ _ _ (E3.out.trans _ E4.out.symm)).mono ?_
    rintro e w5 ⟨rfl, m5, rfl⟩
    go_wp2_with fail
    refine (toS_any _ _ _ _ (by exact HA2b.out) hb).mono ?_
    rintro e w3 ⟨g3, rfl, hg3, hs3, hb3⟩
    have H3 := hid (bthen (below_drewN H2b.out _) hb3)
    have hs3' := (Sing.below (A := some ⟨g2, 0, none⟩) (xs := xs) (by exact hs2b) hb3).more hb3.size
    clear hb3 HA2b H2b hs2b
    go_wp2_with fail
    refine (eqS_any _ _ _ _ _ _ hs3' hs3 hb).mono ?_
    rintro e w4 ⟨rfl, hb4⟩
    have H4 := hid (bthen H3.out hb4)
    clear hb4 H3
    go_wp2
    go_ret
    exact ⟨rfl, H4.out⟩
  · have hbz : (1048576 : Int) < (xs.length : Int) := by omega
    go_enter Try.func10, Try.ntmps10
    go_wp2
    go_ret
    exact ⟨rfl, Below.refl _ _⟩
end Go.Proofs.Ytgenphbackbepaa
