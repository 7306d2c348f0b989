/- A number that is drawn in a table, and the drawn table with it: l04At, DrawTable of the reference. -/
import Derived.Test.YtbloipnpgncjiaaDTab
import Derived.Test.YtbloipnpgncjiaaOwnP
import Derived.Deep.Onto
namespace Go.Proofs.Ytbloipnpgncjiaa
open Go.RowKit

theorem Pts.upd {w w' : World} {p : Nat} {A : Option Addr} {ps : List (Nat × Nat)} (h : Pts w w.heap.size A ps) (hu : Upd p w w') (hne : ∀ ad, A = some ad → ad.block ≠ p) : Pts w' w'.heap.size A ps := by
  refine ⟨h.1, fun hn => ?_⟩
  obtain ⟨ad, e, hb, hc⟩ := h.2 hn
  exact ⟨ad, e, Nat.lt_of_lt_of_le hb hu.size, fun j u hj => (hu.cell (by rw [block_of_add]; exact hne ad e) (by rw [block_of_add]; exact hb)).trans (hc j u hj)⟩

set_option maxRecDepth 20000 in
set_option maxHeartbeats 4000000 in
theorem at_any (p : Nat) (A : Option Addr) (c : Nat) (ps : List (Nat × Nat)) (w : World) (hc : Cur w p) (ha : Pts w w.heap.size A ps) (hne : ∀ ad, A = some ad → ad.block ≠ p) (hl : 2 ≤ ps.length) (hl6 : ps.length ≤ 1048576) :
    Calls Try.prog 70 #[.pointer (some ⟨p, 0, none⟩), .slice A ps.length c] w fun e w' => ∃ x : Nat, e = .returned (.float .f32 x) ∧ Cur w' p ∧ Upd p w w' := by
  have HC := hid hc
  have HA := hid ha
  have HN := hid hne
  have hlz : ¬ ((ps.length : Int) < 2) := by omega
  have hl6z : (ps.length : Int) ≤ 1048576 := by omega
  clear hc ha hne
  go_enter Try.func70, Try.ntmps70
  go_wp2_with fail
  refine (once_any _ _ _ HC.out (by decide) (by decide)).mono ?_
  rintro e w1 ⟨b, rfl, hc1, hu1⟩
  have HC1 := hid hc1
  have HU1 := hid hu1
  have HA1 := hid (HA.out.upd hu1 HN.out)
  clear hc1 hu1
  cases b
  · go_wp2_with fail
    refine (below_any _ _ _ HC1.out (by omega) (by omega)).mono ?_
    rintro e w2 ⟨a, rfl, a0, a1, hc2, hu2⟩
    obtain ⟨k, rfl⟩ := Int.eq_ofNat_of_zero_le a0
    have HC2 := hid hc2
    have HU2 := hid (HU1.out.trans hu2)
    have HA2 := hid (HA1.out.upd hu2 HN.out)
    clear hc2 hu2
    have hk : k + 1 < ps.length := by omega
    have hkz : (k : Int) + 1 < (ps.length : Int) := by omega
    obtain ⟨ad, x, y, rfl, had, hxy, hca, hca'⟩ := HA2.out.at2 (k := k) (by omega)
    clear a0 a1 hxy
    go_wp2_with fail
    refine (below_any _ _ _ HC2.out (by decide) (by decide)).mono ?_
    rintro e w3 ⟨d, rfl, d0, d1, hc3, hu3⟩
    have HC3 := hid hc3
    have HU3 := hid (HU2.out.trans hu3)
    have HA3 := hid (HA2.out.upd hu3 HN.out)
    clear hc3 hu3 hca hca'
    have hd : d = 0 ∨ d = 1 ∨ (¬ (d = 0) ∧ ¬ (d = 1)) := by omega
    obtain ⟨ad', x', y', e', had', hxy', hcb, hcb'⟩ := HA3.out.at2 (k := k + 1) (by omega)
    cases e'
    rcases hd with rfl | rfl | ⟨g1, g2⟩
    · go_wp2_with fail
      go_ret
      exact ⟨x, rfl, HC3.out, HU3.out⟩
    · go_wp2_with fail
      go_ret
      exact ⟨x', rfl, HC3.out, HU3.out⟩
    · clear d0 d1
      have HN' := hid (HN.out ad rfl)
      have hwr : IntKind.i64.wrap ((k : Int) + 1) = (k : Int) + 1 := by rw [IntKind.wrap_i64]; omega
      have hw0 : (0 : Int) ≤ (k : Int) + 1 := by omega
      have htn : ((k : Int) + 1).toNat = k + 1 := by omega
      go_wp2_with fail
      go_region_with (first | (refine upon_arith (by first | exact .inl rfl | exact .inr (.inl rfl) | exact .inr (.inr (.inl rfl)) | exact .inr (.inr (.inr rfl))) ?_; intro r n hr; clear hr) | (go_at_call 89; refine Calls.mono (below_any p 256 _ ?_ (by decide) (by decide)) ?_; exact HC3.out; rintro e w4 ⟨b, rfl, b0, b1, hc4, hu4⟩; have hcd : w4.cell? (ad.add ((k + 1) * 2)) = some (.float .f32 x') := (hu4.cell (a := ad.add ((k + 1) * 2)) (by rw [block_of_add]; exact HN'.out) (by rw [block_of_add]; exact had')).trans hcb; have HC4 := hid hc4; have HU4 := hid (show Upd p w w4 from by first | exact (HU3.out.drewN _).trans hu4 | exact (HU3.out.drewN 1).trans hu4); clear hc4 hu4))
      all_goals
        go_wp2_with fail
        go_ret
        exact ⟨_, rfl, HC4.out, by first | exact HU4.out.drewN _ | exact HU4.out⟩
  · go_wp2_with fail
    refine (single_any _ _ HC1.out).mono ?_
    rintro e w2 ⟨x, rfl, hc2, hu2⟩
    have HC2 := hid hc2
    have HU2 := hid (HU1.out.trans hu2)
    clear hc2 hu2
    go_wp2_with fail
    go_ret
    exact ⟨x, rfl, HC2.out, HU2.out⟩

/-- a new table that is bounded and rises, and a number -/
def RetD (w : World) (e : Ending) (w' : World) : Prop := ∃ v x ps, e = .returned (.tuple #[v, .float .f32 x]) ∧ DTab ps ∧ w'.ownsRow w.heap.size 36 2 v ps.length (pcells ps) ∧ Below w.heap.size w w'

set_option maxRecDepth 20000 in
set_option maxHeartbeats 1000000 in
theorem drawT_any (A : Option Addr) (n c : Nat) (w : World) (hb : Byts w w.heap.size A n) (hn : n ≤ 1048576) :
    Calls Try.prog 21 #[.slice A n c] w (RetD w) := by
  have HB := hid hb
  clear hb
  go_enter Try.func21, Try.ntmps21
  go_wp2_with fail
  refine (new_any _ _ _ _ HB.out hn).mono ?_
  rintro e w1 ⟨p, rfl, hp, hc1, hb1⟩
  have HC1 := hid hc1
  have HB1 := hid hb1
  clear hc1 hb1
  go_wp2_with fail
  refine (dtable_any _ _ HC1.out).mono ?_
  rintro e w2 ⟨v, ps, rfl, hd, hown, hc2, hu2⟩
  obtain ⟨A2, c2, g2, rfl, s2, hg2, hA2, _⟩ := own_openP hown
  have HD := hid hd
  have HO2 := hid hown
  have HC2 := hid hc2
  have HB2 := hid (HB1.out.trans (hu2.1.mono hp))
  have hp1 := HC1.out.lt
  have HS2 := hid s2
  have HN := hid (show ∀ ad, A2 = some ad → ad.block ≠ p from fun ad e => by
    have := (hA2 (by have := hd.1; omega)).1
    rw [this] at e
    cases e
    show g2 ≠ p
    omega)
  have l2 : 2 ≤ ps.length := hd.1
  have l6 : ps.length ≤ 6 := hd.2.1
  clear hd hown hc2 hu2 s2 hA2
  go_wp2_with fail
  refine (at_any p _ _ _ _ HC2.out HS2.out HN.out l2 (by omega)).mono ?_
  rintro e w3 ⟨x, rfl, hc3, hu3⟩
  have HO3 := hid (hu3.own HO2.out hp1)
  have HB3 := hid (HB2.out.trans (hu3.1.mono hp))
  clear hc3 hu3
  go_wp2_with fail
  go_ret2
  exact ⟨_, x, ps, rfl, HD.out, HO3.out.mono (by have := HB1.out.size; exact this), HB3.out⟩

end Go.Proofs.Ytbloipnpgncjiaa
