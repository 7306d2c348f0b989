/- DriftOf, of the program and of the reference: the slope of a good list of two or more. -/
import Derived.Test.YtgenphbackbepaaSum
namespace Go.Proofs.Ytgenphbackbepaa
open Go.RowKit

def driftT (n k x : Nat) : Nat := Fl.arith .f64 .mul (floatOfInt .f64 (2 * (k : Int) - ((n : Int) - 1))) (Fl.wid x)
/-- the sum of the first k turns -/
def driftN (xs : List Nat) : Nat → Nat
  | 0 => 0
  | k + 1 => Fl.arith .f64 .add (driftN xs k) (driftT xs.length k (xs.getD k 0))
theorem driftN_snoc (xs : List Nat) {k : Nat} (h : k < xs.length) : driftN xs (k + 1) = Fl.arith .f64 .add (driftN xs k) (driftT xs.length k xs[k]) := by
  show Fl.arith .f64 .add (driftN xs k) (driftT xs.length k (xs.getD k 0)) = _
  simp [List.getD, h]
def driftR (xs : List Nat) : Nat := Fl.arith .f64 .quo (Fl.arith .f64 .mul (driftN xs xs.length) 4618441417868443648) (floatOfInt .f64 ((xs.length : Int) * ((xs.length : Int) * xs.length - 1)))
def driftB (xs : List Nat) : Bool := goodB xs && decide (2 ≤ xs.length)
def driftV (xs : List Nat) : Nat := if driftB xs then driftR xs else 0
theorem cube {n : Int} (h0 : 0 ≤ n) (h : n ≤ 64) : 0 ≤ n * n ∧ n * n ≤ 4096 ∧ -64 ≤ n * (n * n - 1) ∧ n * (n * n - 1) ≤ 262144 := by
  have a : n * n ≤ 64 * 64 := Int.mul_le_mul h h h0 (by decide)
  have b : 0 ≤ n * n := Int.mul_nonneg h0 h0
  have c : n * (n * n) ≤ 64 * (64 * 64) := Int.mul_le_mul h a b (by decide)
  have d : 0 ≤ n * (n * n) := Int.mul_nonneg h0 b
  rw [Int.mul_sub, Int.mul_one]
  omega

set_option maxHeartbeats 1000000 in
theorem drift_impl (A : Option Addr) (c : Nat) (xs : List Nat) (w : World) (ha : Sing w w.heap.size A xs) (hn : xs.length ≤ 1048576) :
    Calls Try.prog 23 #[.slice A xs.length c] w (RetFB .f64 (driftV xs) (driftB xs) w) := by
  have HA := hid ha
  clear ha
  rcases Bool.eq_false_or_eq_true (driftB xs) with hg | hg
  · have HV := hid (show driftV xs = driftR xs by unfold driftV; rw [hg]; rfl)
    have HB := hid hg
    have hg1 : goodB xs = true := (Bool.and_eq_true_iff.1 hg).1
    have h2z : 2 ≤ xs.length := of_decide_eq_true (Bool.and_eq_true_iff.1 hg).2
    have hlz : (xs.length : Int) ≤ 64 := by have := (goodB_iff.1 hg1).1; omega
    have h2y : 2 ≤ (xs.length : Int) := by omega
    obtain ⟨c1, c2, c3, c4⟩ := cube (show 0 ≤ (xs.length : Int) by omega) hlz
    clear hg
    go_enter Try.func23, Try.ntmps23
    go_wp2_with fail
    refine (good_impl _ _ _ _ HA.out hn).mono ?_
    rintro e w' ⟨rfl, n, rfl⟩
    rw [hg1]
    clear hg1
    go_wp2_with fail
    go_loopw [5, 6, 7, 19] (fun s _ _ i wr => ∃ (k r : Nat), k ≤ xs.length ∧ i = .int .i64 k ∧ s = .float .f64 r ∧ Fl.Wf .f64 r ∧ Fl.Eqv .f64 r (driftN xs k) ∧ Drew w wr) (fun _ _ _ i _ => xs.length - (intOf i).toNat)
    case atStart => exact ⟨0, 0, Nat.zero_le _, rfl, rfl, wf0 _, Fl.Eqv.refl _ _, _, rfl⟩
    case round =>
      obtain ⟨k, r, hk, rfl, rfl, hw, he, m, rfl⟩ := hrel
      have HW := hid hw
      have HE := hid he
      clear hw he
      by_cases hlt : k < xs.length
      · obtain ⟨ad, rfl, had, hca⟩ := HA.out.at_ hlt
        have HS := hid (driftN_snoc xs hlt)
        have hkz : (k : Int) < (xs.length : Int) := by omega
        go_wp2_with fail
        refine upon_widen some_f32 Try.underlying28 ?_
        intro r1 n1 hr1
        have E1 := hid hr1.w
        clear hr1
        go_wp2_with fail
        refine upon_arith (.inr (.inr (.inl rfl))) ?_
        intro r2 n2 hr2
        have E2 := hid (hr2.arith _ (Fl.Eqv.refl _ _) E1.out)
        clear hr2
        go_wp2_with fail
        refine upon_arith (.inl rfl) ?_
        intro r3 n3 hr3
        have E3 := hid hr3
        clear hr3
        go_wp2_with fail
        go_roundw
        case rel => exact ⟨k + 1, r3, by omega, by go_num, rfl, E3.out.1, by rw [HS.out]; exact E3.out.arith _ HE.out E2.out, _, rfl⟩
        case measure => simp [intOf]; omega
      · have : k = xs.length := by omega
        subst this
        go_wp2_with fail
        refine upon_arith (.inr (.inr (.inl rfl))) ?_
        intro r2 n2 hr2
        have E2 := hid (hr2.arith _ HE.out (Fl.Eqv.refl _ _))
        clear hr2
        go_wp2_with fail
        refine upon_arith (.inr (.inr (.inr rfl))) ?_
        intro r3 n3 hr3
        have E3 := hid hr3
        clear hr3
        go_wp2_with fail
        go_ret2
        exact ⟨r3, by rw [HB.out]; rfl, E3.out.1, by rw [HV.out]; exact E3.out.arith _ E2.out (Fl.Eqv.refl _ _), below_drewN (Below.refl _ _) _⟩
  · have HV := hid (show driftV xs = 0 by unfold driftV; rw [hg]; rfl)
    have HB := hid hg
    clear hg
    rcases Bool.eq_false_or_eq_true (goodB xs) with hg | hg
    · have h2z : (xs.length : Int) < 2 := by
        have := HB.out
        unfold driftB at this
        rw [hg] at this
        simp at this
        omega
      go_enter Try.func23, Try.ntmps23
      go_wp2_with fail
      refine (good_impl _ _ _ _ HA.out hn).mono ?_
      rintro e w' ⟨rfl, n, rfl⟩
      rw [hg]
      clear hg
      go_wp2_with fail
      go_ret2
      exact ⟨0, by rw [HB.out]; rfl, wf0 _, by rw [HV.out]; exact Fl.Eqv.refl _ _, below_drewN (Below.refl _ _) _⟩
    · go_enter Try.func23, Try.ntmps23
      go_wp2_with fail
      refine (good_impl _ _ _ _ HA.out hn).mono ?_
      rintro e w' ⟨rfl, n, rfl⟩
      rw [hg]
      clear hg
      go_wp2_with fail
      go_ret2
      exact ⟨0, by rw [HB.out]; rfl, wf0 _, by rw [HV.out]; exact Fl.Eqv.refl _ _, below_drewN (Below.refl _ _) _⟩

set_option maxHeartbeats 1000000 in
theorem drift_spec (A : Option Addr) (c : Nat) (xs : List Nat) (w : World) (ha : Sing w w.heap.size A xs) (hn : xs.length ≤ 1048576) :
    Calls Try.prog 22 #[.slice A xs.length c] w (RetFB .f64 (driftV xs) (driftB xs) w) := by
  have HA := hid ha
  clear ha
  rcases Bool.eq_false_or_eq_true (driftB xs) with hg | hg
  · have HV := hid (show driftV xs = driftR xs by unfold driftV; rw [hg]; rfl)
    have HB := hid hg
    have hg1 : goodB xs = true := (Bool.and_eq_true_iff.1 hg).1
    have h2z : 2 ≤ xs.length := of_decide_eq_true (Bool.and_eq_true_iff.1 hg).2
    have hlz : (xs.length : Int) ≤ 64 := by have := (goodB_iff.1 hg1).1; omega
    have h2y : 2 ≤ (xs.length : Int) := by omega
    obtain ⟨c1, c2, c3, c4⟩ := cube (show 0 ≤ (xs.length : Int) by omega) hlz
    clear hg
    go_enter Try.func22, Try.ntmps22
    go_wp2_with fail
    refine (good_spec _ _ _ _ HA.out hn).mono ?_
    rintro e w' ⟨rfl, n, rfl⟩
    rw [hg1]
    clear hg1
    go_wp2_with fail
    go_loopw [5, 6, 7] (fun s i _ wr => ∃ (k r : Nat), k ≤ xs.length ∧ i = .int .i64 k ∧ s = .float .f64 r ∧ Fl.Wf .f64 r ∧ Fl.Eqv .f64 r (driftN xs k) ∧ Drew w wr) (fun _ i _ _ => xs.length - (intOf i).toNat)
    case atStart => exact ⟨0, 0, Nat.zero_le _, rfl, rfl, wf0 _, Fl.Eqv.refl _ _, _, rfl⟩
    case round =>
      obtain ⟨k, r, hk, rfl, rfl, hw, he, m, rfl⟩ := hrel
      have HW := hid hw
      have HE := hid he
      clear hw he
      by_cases hlt : k < xs.length
      · obtain ⟨ad, rfl, had, hca⟩ := HA.out.at_ hlt
        have HS := hid (driftN_snoc xs hlt)
        have hkz : (k : Int) < (xs.length : Int) := by omega
        go_wp2_with fail
        refine upon_widen some_f32 Try.underlying28 ?_
        intro r1 n1 hr1
        have E1 := hid hr1.w
        clear hr1
        go_wp2_with fail
        refine upon_arith (.inr (.inr (.inl rfl))) ?_
        intro r2 n2 hr2
        have E2 := hid (hr2.arith _ (Fl.Eqv.refl _ _) E1.out)
        clear hr2
        go_wp2_with fail
        refine upon_arith (.inl rfl) ?_
        intro r3 n3 hr3
        have E3 := hid hr3
        clear hr3
        go_wp2_with fail
        go_roundw
        case rel => exact ⟨k + 1, r3, by omega, by go_num, rfl, E3.out.1, by rw [HS.out]; exact E3.out.arith _ HE.out E2.out, _, rfl⟩
        case measure => simp [intOf]; omega
      · have : k = xs.length := by omega
        subst this
        go_wp2_with fail
        refine upon_arith (.inr (.inr (.inl rfl))) ?_
        intro r2 n2 hr2
        have E2 := hid (hr2.arith _ HE.out (Fl.Eqv.refl _ _))
        clear hr2
        go_wp2_with fail
        refine upon_arith (.inr (.inr (.inr rfl))) ?_
        intro r3 n3 hr3
        have E3 := hid hr3
        clear hr3
        go_wp2_with fail
        go_ret2
        exact ⟨r3, by rw [HB.out]; rfl, E3.out.1, by rw [HV.out]; exact E3.out.arith _ E2.out (Fl.Eqv.refl _ _), below_drewN (Below.refl _ _) _⟩
  · have HV := hid (show driftV xs = 0 by unfold driftV; rw [hg]; rfl)
    have HB := hid hg
    clear hg
    rcases Bool.eq_false_or_eq_true (goodB xs) with hg | hg
    · have h2z : (xs.length : Int) < 2 := by
        have := HB.out
        unfold driftB at this
        rw [hg] at this
        simp at this
        omega
      go_enter Try.func22, Try.ntmps22
      go_wp2_with fail
      refine (good_spec _ _ _ _ HA.out hn).mono ?_
      rintro e w' ⟨rfl, n, rfl⟩
      rw [hg]
      clear hg
      go_wp2_with fail
      go_ret2
      exact ⟨0, by rw [HB.out]; rfl, wf0 _, by rw [HV.out]; exact Fl.Eqv.refl _ _, below_drewN (Below.refl _ _) _⟩
    · go_enter Try.func22, Try.ntmps22
      go_wp2_with fail
      refine (good_spec _ _ _ _ HA.out hn).mono ?_
      rintro e w' ⟨rfl, n, rfl⟩
      rw [hg]
      clear hg
      go_wp2_with fail
      go_ret2
      exact ⟨0, by rw [HB.out]; rfl, wf0 _, by rw [HV.out]; exact Fl.Eqv.refl _ _, below_drewN (Below.refl _ _) _⟩
end Go.Proofs.Ytgenphbackbepaa
