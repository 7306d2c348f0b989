/- slices.symMergeCmpFunc of points where the second part has one element. -/
import Derived.Test.YtbloipnpgncjiaaPSymA
set_option linter.unusedSimpArgs false
namespace Go.Proofs.Ytbloipnpgncjiaa
open Go.RowKit

theorem goI_prev {α : Type} (d : α) (P Y : List α) (x : α) (Q : List α) {r : Nat} (hr : r < Y.length) : (goI P Y x Q Y.length).getD (P.length + r) d = Y.getD r d := by
  unfold goI
  rw [List.take_length, List.drop_length]
  simp only [List.getD]
  rw [List.getElem?_append_left (by rw [List.length_append]; omega), List.getElem?_append_right (by omega), Nat.add_sub_cancel_left]

set_option maxRecDepth 20000 in
set_option maxHeartbeats 4000000 in
theorem symB_any (g n c : Nat) (P X Q : List (Nat × Nat)) (y : Nat × Nat) (hX0 : 2 ≤ X.length) (hy : Fl.nan .f32 y.1 = false) (hx : ∀ x ∈ X, Fl.nan .f32 x.1 = false) (hs : Srt kyP X) (w : World) (hr : RowP w g n (P ++ X ++ [y] ++ Q)) (hn : n ≤ 2097152) :
    SymOk g n c P X [y] Q w := by
  unfold SymOk
  have HR := hid (show RowP w g n (goI P X y Q X.length) by unfold goI; simpa using hr)
  have hlen : P.length + X.length + 1 + Q.length = n := by have := hr.1; simp at this; omega
  rw [show ([y] : List (Nat × Nat)).length = 1 from rfl]
  obtain ⟨a, ha⟩ : ∃ a, P.length = a := ⟨_, rfl⟩
  obtain ⟨m, hm⟩ : ∃ m, P.length + X.length = m := ⟨_, rfl⟩
  obtain ⟨b, hb⟩ : ∃ b, m + 1 = b := ⟨_, rfl⟩
  rw [hm, hb, ha]
  have HP := hid (show P.length = a ∧ m = a + X.length ∧ b = m + 1 ∧ b ≤ n by omega)
  have HX := hid hx
  have HY := hid hy
  have HS := hid hs
  have ham : ¬ ((m : Int) - (a : Int) = 1) := by omega
  have ham1 : ((m : Int) - (a : Int) == 1) = false := by simpa using ham
  have ham2 : (m : Int) - (a : Int) ≤ 2097152 := by omega
  have ham3 : (a : Int) < (m : Int) := by omega
  have hmb : (b : Int) - (m : Int) = 1 := by omega
  have haz : (0 : Int) ≤ (a : Int) := by omega
  have hbz : (b : Int) ≤ 2097152 := by omega
  have hbn : (b : Int) ≤ (n : Int) := by omega
  have hmn : (m : Int) < (n : Int) := by omega
  clear hr ha hm hb hx hy hs hlen
  go_enter Try.func126, Try.ntmps126
  go_wp2_with fail
  go_loopw [14, 15, 16] (fun i j _ wr => ∃ p q : Nat, p ≤ q ∧ q ≤ X.length ∧ i = .int .i64 ((a + p : Nat) : Int) ∧ j = .int .i64 ((a + q : Nat) : Int) ∧ (p = 0 ∨ kyP (X.getD (p - 1) (0, 0)) ≤ kyP y) ∧ (q = X.length ∨ kyP y < kyP (X.getD q (0, 0))) ∧ RowP wr g n (goI P X y Q X.length) ∧ Upd g w wr) (fun i j _ _ => (intOf j).toNat - (intOf i).toNat)
  case atStart => exact ⟨0, X.length, by omega, Nat.le_refl _, rfl, by have := HP.out; congr 1; omega, .inl rfl, .inl rfl, HR.out, Upd.refl _ _⟩
  case round =>
    obtain ⟨p, q, hpq, hqy, rfl, rfl, hp, hq, hrow, hup⟩ := hrel
    have HROW := hid hrow
    have HUP := hid hup
    clear hrow hup
    obtain ⟨i, hi⟩ : ∃ i, a + p = i := ⟨_, rfl⟩
    obtain ⟨j, hj⟩ : ∃ j, a + q = j := ⟨_, rfl⟩
    rw [hi, hj]
    have HIJ := hid (And.intro hi hj)
    have HPQ := hid (And.intro hp hq)
    have HL := hid (And.intro hpq hqy)
    by_cases hlt : p < q
    · have hij : (i : Int) < (j : Int) := by omega
      have hjz : (j : Int) ≤ 2097152 := by have := HP.out; omega
      obtain ⟨h, hh⟩ : ∃ h, (i + j) / 2 = h := ⟨_, rfl⟩
      have hhz : ((i : Int) + (j : Int)) / 2 = (h : Int) := by omega
      obtain ⟨r, hr⟩ : ∃ r, h = a + r := ⟨h - a, by have := HIJ.out; omega⟩
      have hrq : p ≤ r ∧ r < q := by have := HIJ.out; omega
      have HRQ := hid hrq
      have HHR := hid hr
      have hry : r < X.length := by have := HL.out; omega
      have hhn : h < n := by have := HP.out; omega
      have hmn' : m < n := by have := HP.out; omega
      have e1 : (goI P X y Q X.length).getD h (0, 0) = X.getD r (0, 0) := by
        have := goI_prev (0, 0) P X y Q hry
        rw [show P.length + r = h by have := HP.out; omega] at this
        exact this
      have e2 : (goI P X y Q X.length).getD m (0, 0) = y := by
        have := goI_self (0, 0) P X y Q (t := X.length) (Nat.le_refl _)
        rw [show P.length + X.length = m by have := HP.out; omega] at this
        exact this
      obtain ⟨k1, k2⟩ := HROW.out.atG hhn e1
      obtain ⟨k3, k4⟩ := HROW.out.atG hmn' e2
      have hyn := nan_get HX.out hry
      obtain ⟨x, hx⟩ : ∃ x, X.getD r (0, 0) = x := ⟨_, rfl⟩
      rw [hx] at k1 k2 hyn
      have HXR := hid hx
      have HXN := hid hyn
      have hhnz : (h : Int) < (n : Int) := by omega
      have hwh : IntKind.i64.wrap (h : Int) = (h : Int) := by rw [IntKind.wrap_i64]; omega
      clear hi hj hp hq hpq hqy hh hr hrq hry hhn hmn' e1 e2 hx hyn hlt
      by_cases hlt2 : cmpI y.1 x.1 < 0
      · have HLT := hid ((lt_kyP HY.out HXN.out).1 hlt2)
        have hd : decide (cmpI y.1 x.1 < 0) = true := decide_eq_true hlt2
        go_wp2_with fail
        have mixed : Try.prog.follows .mixedOrders = true := by kernel_rfl
        go_quiet_grown (first | (refine Calls.grown_of (cmpP_any y x HY.out HXN.out _)))
        go_wp2_with fail
        go_roundw
        case rel =>
          refine ⟨p, r, HRQ.out.1, by have := HRQ.out; have := HL.out; omega, by rw [HIJ.out.1], by rw [HHR.out], HPQ.out.1, .inr (by rw [HXR.out]; exact HLT.out), HROW.out.grown nq osq, HUP.out.grown (Nat.le_of_lt HROW.out.2.1) nq osq⟩
        case measure => have := HRQ.out; have := HHR.out; have := HIJ.out; simp [intOf]; omega
      · have HLT := hid (show kyP x ≤ kyP y by have := mt (lt_kyP HY.out HXN.out).2 hlt2; omega)
        have hd : decide (cmpI y.1 x.1 < 0) = false := decide_eq_false hlt2
        go_wp2_with fail
        have mixed : Try.prog.follows .mixedOrders = true := by kernel_rfl
        go_quiet_grown (first | (refine Calls.grown_of (cmpP_any y x HY.out HXN.out _)))
        go_wp2_with fail
        go_roundw
        case rel =>
          refine ⟨r + 1, q, by have := HRQ.out; omega, HL.out.2, by have := HHR.out; go_num, by rw [HIJ.out.2], .inr (by rw [Nat.add_sub_cancel, HXR.out]; exact HLT.out), HPQ.out.2, HROW.out.grown nq osq, HUP.out.grown (Nat.le_of_lt HROW.out.2.1) nq osq⟩
        case measure => have := HRQ.out; have := HHR.out; have := HIJ.out; simp [intOf]; omega
    · have hpq2 : p = q := by omega
      subst hpq2
      have hij : j = i := by omega
      subst hij
      have HSM := hid (show smerge kyP X [y] = X.take p ++ y :: X.drop p by
        have e := sm_ins (key := kyP) (y := y) (S1 := X.take p) (S2 := X.drop p) (fun a ha => by
          obtain ⟨k, k1, k2, rfl⟩ := mem_take_get (0, 0) ha
          rcases HPQ.out.1 with h0 | h0
          · omega
          · have := srt_get HS.out (0, 0) (show k ≤ p - 1 by omega) (show p - 1 < X.length by have := HL.out; omega)
            omega) (fun a ha => by
          obtain ⟨k, k1, k2, rfl⟩ := mem_drop_get (0, 0) ha
          rcases HPQ.out.2 with h0 | h0
          · omega
          · have := srt_get HS.out (0, 0) k1 k2
            omega)
        rw [List.take_append_drop] at e
        exact e)
      clear hi hj hp hq hpq hqy hlt
      go_wp2_with fail
      go_loopw [17] (fun k wr => ∃ t : Nat, p ≤ t ∧ t ≤ X.length ∧ k = .int .i64 ((a + t : Nat) : Int) ∧ RowP wr g n (goI P X y Q t) ∧ Upd g w wr) (fun k _ => (intOf k).toNat)
      case atStart => exact ⟨X.length, HL.out.2, Nat.le_refl _, by have := HP.out; congr 1; omega, HROW.out, HUP.out⟩
      case round =>
        obtain ⟨t, htp, ht, rfl, hrow, hu⟩ := hrel
        have HROW := hid hrow
        have HU := hid hu
        clear hrow hu
        obtain ⟨u, hu⟩ : ∃ u, a + t = u := ⟨_, rfl⟩
        rw [hu]
        by_cases hpt : p < t
        · obtain ⟨t', rfl⟩ : ∃ t', t = t' + 1 := ⟨t - 1, by omega⟩
          have HST := hid (goI_down (0, 0) P X y Q (t := t') (by omega))
          obtain ⟨v, hv⟩ : ∃ v, a + t' = v := ⟨_, rfl⟩
          rw [HP.out.1, Nat.add_assoc, hu, hv] at HST
          have hun : u < n := by have := HP.out; omega
          have hvn : v < n := by have := HP.out; omega
          obtain ⟨k1, k2, k3, k4⟩ := HROW.out.at_ hun
          obtain ⟨k5, k6, k7, k8⟩ := HROW.out.at_ hvn
          obtain ⟨x1, hx1⟩ : ∃ x1, (goI P X y Q (t' + 1)).getD u (0, 0) = x1 := ⟨_, rfl⟩
          obtain ⟨y1, hy1⟩ : ∃ y1, (goI P X y Q (t' + 1)).getD v (0, 0) = y1 := ⟨_, rfl⟩
          rw [hx1] at k1 k3
          rw [hy1] at k5 k7
          have HSW := hid (HROW.out.swap hun hvn)
          rw [hx1, hy1, HST.out] at HSW
          have hju : (j : Int) < (u : Int) := by have := HIJ.out; omega
          have hau : (u : Int) - 1 = (v : Int) := by omega
          have hwv : IntKind.i64.wrap (v : Int) = (v : Int) := by rw [IntKind.wrap_i64]; omega
          have hunz : (u : Int) < (n : Int) := by omega
          have hvnz : (v : Int) < (n : Int) := by omega
          have huv : u ≠ v := by omega
          obtain ⟨k9, k10, k11⟩ := far_two huv k5 k7
          have HTT := hid (And.intro hpt (And.intro hu (And.intro hv ht)))
          clear hx1 hy1 hu hv hun hvn ht htp hpt HST
          go_wp2_with fail
          go_region
          go_wp2_with fail
          go_roundw
          case rel => exact ⟨t', by have := HTT.out; omega, by have := HTT.out; omega, by have := HTT.out; congr 1; omega, HSW.out, (HU.out.swap _ _ _ _ _ _ _ _).drewN _⟩
          case measure => have := HTT.out; simp [intOf]; omega
        · have htp2 : t = p := by omega
          subst htp2
          have hue : u = j := by have := HIJ.out; omega
          subst hue
          clear hu ht htp
          go_wp2_with fail
          refine bodyPost_ret (results_none (by rfl) _ _ _) rfl ?_
          refine ⟨⟨_, rfl⟩, ?_, HU.out⟩
          rw [HSM.out]
          have := HROW.out
          unfold goI at this
          simpa [List.append_assoc] using this
end Go.Proofs.Ytbloipnpgncjiaa
