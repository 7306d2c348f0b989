/- The law of SpanOf: it answers true for every list of singles. -/
import Derived.Test.YtecmdbbppinamaaSpanOfN
namespace Go.Proofs.Ytecmdbbppinamaa
open Go.RowKit

set_option maxRecDepth 20000 in
set_option maxHeartbeats 2000000 in
theorem law_spanOf (A : Option Addr) (l c : Nat) (xs : List Nat) (hl : l = xs.length) (hx : l ≤ 9223372036854775807) (w : World) (ha : Sing w w.heap.size A xs) (_ : ∀ x ∈ xs, x < 4294967296) :
    Calls Try.prog 10 #[.slice A l c] w fun e w' => e = .returned (.bool true) ∧ Below w.heap.size w w' := by
  subst hl
  have HA := hid ha
  clear ha
  obtain ⟨lo, hi, kk, hv⟩ := spanOfV_form xs
  have CS := hid (fun A c w ha hn => hv ▸ spanOf_spec A c xs w ha hn)
  have CI := hid (fun A c w ha hn => hv ▸ spanOf_impl A c xs w ha hn)
  clear hv
  by_cases hb : xs.length ≤ 1048576
  · have hbz : (xs.length : Int) ≤ 1048576 := by omega
    go_enter Try.func10, Try.ntmps10
    go_wp2_with fail
    refine (toS_any _ _ _ _ HA.out hb).mono ?_
    rintro e w1 ⟨g1, rfl, hg1, hs1, hb1⟩
    have H1 := hid hb1
    have HA1 := hid ((HA.out.below hb1).more hb1.size)
    clear hb1 HA
    go_wp2_with fail
    refine (CS.out _ _ _ hs1 hb).mono ?_
    rintro e w1b ⟨rfl, hb1⟩
    have hb1c := bthen hb1 (below_new w1b (.cells #[.float .f32 lo, .float .f32 hi] 26))
    have H1b := hid (bthen H1.out hb1c)
    have HA1b := hid ((HA1.out.below hb1c).more hb1c.size)
    have HX := hid (box2_new w1b (.float .f32 lo) (.float .f32 hi) 26)
    clear hb1 HA1 H1 hs1 hb1c
    go_wp2_with fail
    refine (toS_any _ _ _ _ HA1b.out hb).mono ?_
    rintro e w2 ⟨g2, rfl, hg2, hs2, hb2⟩
    have H2 := hid (bthen H1b.out hb2)
    have HA2 := hid ((HA1b.out.below hb2).more hb2.size)
    have HX2 := hid (HX.out.next hb2)
    clear hb2 HA1b H1b HX
    go_wp2_with fail
    refine (CI.out _ _ _ hs2 hb).mono ?_
    rintro e w2b ⟨rfl, hb2⟩
    have hb2c := bthen hb2 (below_new w2b (.cells #[.float .f32 lo, .float .f32 hi] 26))
    have H2b := hid (bthen H2.out hb2c)
    have HA2b := hid ((HA2.out.below hb2c).more hb2c.size)
    have hs2b := (hs2.below hb2c).more hb2c.size
    have HX2b := hid (HX2.out.next hb2c)
    obtain ⟨_, x1, x1'⟩ := HX2.out.next hb2c
    obtain ⟨_, x2, x2'⟩ := box2_new w2b (.float .f32 lo) (.float .f32 hi) 26
    clear hb2 HA2 H2 hs2 hb2c HX2
    go_wp2_with fail
    refine (eqSpan_any _ _ _).mono ?_
    rintro e w5 ⟨rfl, hb5⟩
    have H5 := hid (bthen H2b.out hb5)
    have HA5 := hid ((HA2b.out.below hb5).more hb5.size)
    have hs5 := (hs2b.below hb5).more hb5.size
    clear hb5 H2b HA2b hs2b x1 x1' x2 x2'
    go_wp2_with fail
    refine (toS_any _ _ _ _ HA5.out hb).mono ?_
    rintro e w3 ⟨g3, rfl, hg3, hs3, hb3⟩
    have H3 := hid (bthen H5.out hb3)
    have hs3' := (Sing.below (A := some ⟨g2, 0, none⟩) (xs := xs) (by exact hs5) hb3).more hb3.size
    clear hb3 HA5 H5 hs5
    go_wp2_with fail
    refine (eqS_any _ _ _ _ _ _ hs3' hs3 hb).mono ?_
    rintro e w4 ⟨rfl, hb4⟩
    have H4 := hid (bthen H3.out hb4)
    clear hb4 H3
    go_wp2_with fail
    go_ret
    exact ⟨rfl, H4.out⟩
  · have hbz : (1048576 : Int) < (xs.length : Int) := by omega
    go_enter Try.func10, Try.ntmps10
    go_wp2_with fail
    go_ret
    exact ⟨rfl, Below.refl _ _⟩
end Go.Proofs.Ytecmdbbppinamaa
