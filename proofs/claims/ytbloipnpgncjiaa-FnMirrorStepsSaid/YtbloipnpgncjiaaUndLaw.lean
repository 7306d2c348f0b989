/- The law of exact steps: what undoes them brings every number back. It answers true for every code. -/
import Derived.Test.YtbloipnpgncjiaaUndo
namespace Go.Proofs.Ytbloipnpgncjiaa
open Go.RowKit Ieee

theorem undL_len (ss : List St) : (undL ss).length = ss.length := by simp [undL]
theorem undL_ex {ss : List St} (h : ∀ s ∈ ss, StEx s) : ∀ s ∈ undL ss, StEx s := by
  intro s hs
  unfold undL at hs
  obtain ⟨t, ht, rfl⟩ := List.mem_map.1 hs
  exact und_ex (h t (List.mem_reverse.1 ht))

set_option maxRecDepth 20000 in
set_option maxHeartbeats 8000000 in
theorem law_und (A : Option Addr) (l c : Nat) (hx : l ≤ 9223372036854775807) (w : World) (ha : Byts w w.heap.size A l) :
    Calls Try.prog 19 #[.slice A l c] w fun e w' => e = .returned (.bool true) ∧ Below w.heap.size w w' := by
  have HA := hid ha
  clear ha
  by_cases hb : 1048576 < l
  · go_enter Try.func19, Try.ntmps19
    go_wp2_with fail
    refine (big_any A l c w hx).mono ?_
    rintro e w0 ⟨rfl, rfl⟩
    rw [decide_eq_true hb]
    go_wp2_with fail
    go_ret
    exact ⟨rfl, Below.refl _ _⟩
  · go_enter Try.func19, Try.ntmps19
    go_wp2_with fail
    refine (big_any A l c w hx).mono ?_
    rintro e w0 ⟨rfl, hw0⟩
    subst hw0
    rw [decide_eq_false hb]
    go_wp2_with fail
    refine (drawE_any A l c _ HA.out (by omega)).mono ?_
    rintro e w1 ⟨v, ss, x, y, rfl, hx1, hy1, hl, hd, hown, hb1⟩
    obtain ⟨A1, c1, rfl, hs1, hcap⟩ := own_openS hown
    have HEX := hid hd
    have HOK := hid (show AllOk ss from ⟨by omega, fun s hs => (hd s hs).1⟩)
    have HUX := hid (undL_ex hd)
    have HUK := hid (show AllOk (undL ss) from ⟨by rw [undL_len]; omega, fun s hs => (undL_ex hd s hs).1⟩)
    have HS1 := hid hs1
    have HB1 := hid hb1
    have HX := hid hx1
    have HY := hid hy1
    have hl20 : ss.length ≤ 20 := by omega
    clear hx1 hy1 hd hown hs1 hb1
    go_wp2_with fail
    refine (undo_any A1 c1 ss _ HS1.out hl20 HEX.out).mono ?_
    rintro e w2 ⟨v2, rfl, hown2, hb2⟩
    obtain ⟨A2, c2, rfl, hs2, hcap2⟩ := own_openS hown2
    have HT2 := hid hs2
    have HB2 := hid (bthen HB1.out hb2)
    have HS2 := hid (HS1.out.next hb2)
    clear hb2 hown2 hs2
    go_wp2_with fail
    refine (exact_any A1 c1 ss _ HS2.out hl20 HEX.out).mono ?_
    rintro e w3 ⟨rfl, hb3⟩
    have HB3 := hid (bthen HB2.out hb3)
    have HS3 := hid (HS2.out.next hb3)
    have HT3 := hid (HT2.out.next hb3)
    clear hb3
    go_wp2_with fail
    refine (exact_any A2 c2 (undL ss) _ HT3.out (by rw [undL_len]; exact hl20) HUX.out).mono ?_
    rintro e w4 ⟨rfl, hb4⟩
    have HB4 := hid (bthen HB3.out hb4)
    have HS4 := hid (HS3.out.next hb4)
    have HT4 := hid (HT3.out.next hb4)
    clear hb4
    rcases Bool.eq_false_or_eq_true (cFin (x, y)) with hf | hf
    · have HZ := hid (show Num (x, y) from ⟨HX.out, HY.out, hf⟩)
      clear hf
      obtain ⟨u, hu1, hu2, hu3⟩ := corr_back ss (x, y) HEX.out HZ.out
      have HC1 := hid hu1
      have HN1 := hid hu2
      have HC2 := hid hu3
      clear hu1 hu2 hu3
      go_wp2_with fail
      refine (corr_any A1 c1 ss (x, y) _ HS4.out HOK.out HZ.out).mono ?_
      rintro e w5 ⟨hcc, hb5⟩
      have HB5 := hid (bthen HB4.out hb5)
      have HT5 := hid (HT4.out.next hb5)
      clear hb5
      rcases hcc with ⟨t, ht, _, rfl⟩ | ⟨ht, rfl⟩
      · have htu : t = u := by rw [HC1.out] at ht; cases ht; rfl
        subst htu
        clear ht
        go_wp2_with fail
        refine (corr_any A2 c2 (undL ss) t _ HT5.out HUK.out HN1.out).mono ?_
        rintro e w6 ⟨hcc, hb6⟩
        have HB6 := hid (bthen HB5.out hb6)
        clear hb6
        rcases hcc with ⟨t2, ht2, _, rfl⟩ | ⟨ht2, rfl⟩
        · have htz : t2 = (x, y) := by rw [HC2.out] at ht2; cases ht2; rfl
          subst htz
          clear ht2
          go_wp2_with fail
          refine (isfin_any x y HX.out HY.out _).mono ?_
          rintro e w7 ⟨rfl, rfl⟩
          rw [show (finB x && finB y) = true from HZ.out.2.2]
          go_wp2_with fail
          refine (samez_any _ _ _ HX.out HY.out).mono ?_
          rintro e w8 ⟨rfl, m8, rfl⟩
          go_wp2_with fail
          go_ret
          exact ⟨rfl, below_drewN HB6.out _⟩
        · rw [HC2.out] at ht2; cases ht2
      · rw [HC1.out] at ht; cases ht
    · have HF := hid hf
      clear hf
      go_wp2_with fail
      refine (corr_bad A1 c1 ss (x, y) _ HS4.out HOK.out HX.out HY.out HF.out).mono ?_
      rintro e w5 ⟨rfl, hb5⟩
      have HB5 := hid (bthen HB4.out hb5)
      have HT5 := hid (HT4.out.next hb5)
      clear hb5
      go_wp2_with fail
      refine (corr_any A2 c2 (undL ss) (0, 0) _ HT5.out HUK.out num_zero).mono ?_
      rintro e w6 ⟨hcc, hb6⟩
      have HB6 := hid (bthen HB5.out hb6)
      clear hb6
      rcases hcc with ⟨t2, ht2, _, rfl⟩ | ⟨ht2, rfl⟩
      all_goals
        go_wp2_with fail
        refine (isfin_any x y HX.out HY.out _).mono ?_
        rintro e w7 ⟨rfl, rfl⟩
        rw [show (finB x && finB y) = false from HF.out]
        go_wp2_with fail
        go_ret
        exact ⟨rfl, HB6.out⟩
end Go.Proofs.Ytbloipnpgncjiaa
