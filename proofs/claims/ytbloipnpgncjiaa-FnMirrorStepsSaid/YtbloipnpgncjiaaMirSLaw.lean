/- The law of the mirrored steps: they come to the conjugate, and fail exactly if the steps do. It answers true for every code. -/
import Derived.Test.YtbloipnpgncjiaaMirW
namespace Go.Proofs.Ytbloipnpgncjiaa
open Go.RowKit Ieee

theorem rel_eq {x x' : Nat} (h : Rel 1 x x') : (FloatKind.f64.format.order x' x == some .eq) = true := by
  have o := Fl.order_ky .f64 (Fl.fin_nan .f64 (show Fl.fin FloatKind.f64.format _ = true from h.2.1)) (Fl.fin_nan .f64 (show Fl.fin FloatKind.f64.format _ = true from h.1))
  have e : Fl.ky .f64 x' = Fl.ky .f64 x := by have := h.2.2; rw [Int.one_mul] at this; exact this
  rw [o, e, show compare (Fl.ky .f64 x) (Fl.ky .f64 x) = .eq by simp]
  rfl

set_option maxRecDepth 20000 in
set_option maxHeartbeats 8000000 in
theorem law_mirs (A : Option Addr) (l c : Nat) (hx : l ≤ 9223372036854775807) (w : World) (ha : Byts w w.heap.size A l) :
    Calls Try.prog 18 #[.slice A l c] w fun e w' => e = .returned (.bool true) ∧ Below w.heap.size w w' := by
  have HA := hid ha
  clear ha
  by_cases hb : 1048576 < l
  · go_enter Try.func18, Try.ntmps18
    go_wp2_with fail
    refine (big_any A l c w hx).mono ?_
    rintro e w0 ⟨rfl, rfl⟩
    rw [decide_eq_true hb]
    go_wp2_with fail
    go_ret
    exact ⟨rfl, Below.refl _ _⟩
  · go_enter Try.func18, Try.ntmps18
    go_wp2_with fail
    refine (big_any A l c w hx).mono ?_
    rintro e w0 ⟨rfl, hw0⟩
    subst hw0
    rw [decide_eq_false hb]
    go_wp2_with fail
    refine (drawS_any A l c _ HA.out (by omega)).mono ?_
    rintro e w1 ⟨v, ss, x, y, rfl, hx1, hy1, hl, hd, hown, hb1⟩
    obtain ⟨A1, c1, rfl, hs1, hcap⟩ := own_openS hown
    have HOK := hid (show AllOk ss from ⟨by omega, hd⟩)
    have HMK := hid (show AllOk (mirSs ss) from ⟨by rw [mirSs_len]; omega, map_ok hd⟩)
    have HS1 := hid hs1
    have HB1 := hid hb1
    have HX := hid hx1
    have HY := hid hy1
    clear hx1 hy1 hd hown hs1 hb1
    go_wp2_with fail
    refine (mirror_any A1 c1 ss _ HS1.out HOK.out).mono ?_
    rintro e w2 ⟨v2, rfl, hown2, hb2⟩
    obtain ⟨A2, c2, rfl, hs2, hcap2⟩ := own_openS hown2
    have HT2 := hid hs2
    have HB2 := hid (bthen HB1.out hb2)
    have HS2 := hid (HS1.out.next hb2)
    clear hb2 hown2 hs2
    rcases Bool.eq_false_or_eq_true (cFin (x, y)) with hf | hf
    · have HZ := hid (show Num (x, y) from ⟨HX.out, HY.out, hf⟩)
      have HZ' := hid (show Num (x, neg64 y) from ⟨HX.out, neg_wf HY.out, by have h1 := HZ.out.f1; have h2 := fin_neg64 HZ.out.f2; unfold cFin finB; rw [show Fl.fin double (x, neg64 y).1 = true from h1, show Fl.fin double (x, neg64 y).2 = true from h2]; rfl⟩)
      clear hf
      have HBO := hid (show (∃ u u', corr ss (x, y) = some u ∧ corr (mirSs ss) (x, neg64 y) = some u' ∧ RZ u u') ∨ (corr ss (x, y) = none ∧ corr (mirSs ss) (x, neg64 y) = none) from corr_both HOK.out.2 (show RZ (x, y) (x, neg64 y) from ⟨Rel.refl HZ.out.f1, Rel.neg1 HZ.out.f2⟩))
      go_wp2_with fail
      refine (corr_any A1 c1 ss (x, y) _ HS2.out HOK.out HZ.out).mono ?_
      rintro e w5 ⟨hcc, hb5⟩
      have HB5 := hid (bthen HB2.out hb5)
      have HT5 := hid (HT2.out.next hb5)
      clear hb5
      rcases hcc with ⟨t, ht, _, rfl⟩ | ⟨ht, rfl⟩
      · have HC := hid ht
        clear ht
        go_wp2_with fail
        refine (corr_any A2 c2 (mirSs ss) (x, neg64 y) _ HT5.out HMK.out HZ'.out).mono ?_
        rintro e w6 ⟨hcc, hb6⟩
        have HB6 := hid (bthen HB5.out hb6)
        clear hb6
        rcases hcc with ⟨t2, ht2, _, rfl⟩ | ⟨ht2, rfl⟩
        · obtain ⟨y1, y2⟩ : (FloatKind.f64.format.order t2.1 t.1 == some .eq) = true ∧ (FloatKind.f64.format.order t2.2 (Op.negFloat .f64 t.2) == some .eq) = true := by
            rcases HBO.out with ⟨u, u', g1, g2, g3⟩ | ⟨g1, g2⟩
            · rw [HC.out] at g1
              rw [ht2] at g2
              cases g1
              cases g2
              refine ⟨rel_eq g3.1, rel_eq ?_⟩
              have := g3.2.negl
              exact this
            · rw [HC.out] at g1; cases g1
          clear ht2
          go_wp2_with fail
          go_ret
          exact ⟨rfl, HB6.out⟩
        · exfalso
          rcases HBO.out with ⟨u, u', g1, g2, g3⟩ | ⟨g1, g2⟩
          · rw [ht2] at g2; cases g2
          · rw [HC.out] at g1; cases g1
      · have HC := hid ht
        clear ht
        go_wp2_with fail
        refine (corr_any A2 c2 (mirSs ss) (x, neg64 y) _ HT5.out HMK.out HZ'.out).mono ?_
        rintro e w6 ⟨hcc, hb6⟩
        have HB6 := hid (bthen HB5.out hb6)
        clear hb6
        rcases hcc with ⟨t2, ht2, _, rfl⟩ | ⟨ht2, rfl⟩
        · exfalso
          rcases HBO.out with ⟨u, u', g1, g2, g3⟩ | ⟨g1, g2⟩
          · rw [HC.out] at g1; cases g1
          · rw [ht2] at g2; cases g2
        · clear ht2
          go_wp2_with fail
          go_ret
          exact ⟨rfl, HB6.out⟩
    · have HF := hid hf
      have HF' := hid (show cFin (x, neg64 y) = false by rw [← hf]; unfold cFin finB; rw [show Fl.fin double (x, neg64 y).2 = Fl.fin double y from fin_turn .f64 y])
      clear hf
      go_wp2_with fail
      refine (corr_bad A1 c1 ss (x, y) _ HS2.out HOK.out HX.out HY.out HF.out).mono ?_
      rintro e w5 ⟨rfl, hb5⟩
      have HB5 := hid (bthen HB2.out hb5)
      have HT5 := hid (HT2.out.next hb5)
      clear hb5
      go_wp2_with fail
      refine (corr_bad A2 c2 (mirSs ss) (x, neg64 y) _ HT5.out HMK.out HX.out (neg_wf HY.out) HF'.out).mono ?_
      rintro e w6 ⟨rfl, hb6⟩
      have HB6 := hid (bthen HB5.out hb6)
      clear hb6
      go_wp2_with fail
      go_ret
      exact ⟨rfl, HB6.out⟩
end Go.Proofs.Ytbloipnpgncjiaa
