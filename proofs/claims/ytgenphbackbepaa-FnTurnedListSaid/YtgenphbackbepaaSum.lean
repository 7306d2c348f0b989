/- SumInOrder, of the program and of the reference: the sum in order of a good list. -/
import Derived.Test.YtgenphbackbepaaGood
namespace Go.Proofs.Ytgenphbackbepaa
open Go.RowKit

/-- the sum in order of widened singles -/
def sumN (xs : List Nat) : Nat := xs.foldl (fun s x => Fl.arith .f64 .add s (Fl.wid x)) 0
theorem sumN_snoc (xs : List Nat) {k : Nat} (h : k < xs.length) : sumN (xs.take (k + 1)) = Fl.arith .f64 .add (sumN (xs.take k)) (Fl.wid xs[k]) := by
  unfold sumN
  rw [List.take_succ_eq_append_getElem h, List.foldl_append]; rfl
def sumV (xs : List Nat) : Nat := if goodB xs then sumN xs else 0

set_option maxHeartbeats 1000000 in
theorem sum_impl (A : Option Addr) (c : Nat) (xs : List Nat) (w : World) (ha : Sing w w.heap.size A xs) (hn : xs.length ≤ 1048576) :
    Calls Try.prog 20 #[.slice A xs.length c] w (RetFB .f64 (sumV xs) (goodB xs) w) := by
  have HA := hid ha
  clear ha
  rcases Bool.eq_false_or_eq_true (goodB xs) with hg | hg
  · have HV := hid (show sumV xs = sumN xs by unfold sumV; rw [hg]; rfl)
    have hlz : (xs.length : Int) ≤ 64 := by have := (goodB_iff.1 hg).1; omega
    go_enter Try.func20, Try.ntmps20
    go_wp2_with fail
    refine (good_impl _ _ _ _ HA.out hn).mono ?_
    rintro e w' ⟨rfl, n, rfl⟩
    rw [hg]
    have HG := hid hg
    clear hg
    go_wp2_with fail
    go_loopw [4, 6, 12] (fun s _ i wr => ∃ (k r : Nat), k ≤ xs.length ∧ i = .int .i64 k ∧ s = .float .f64 r ∧ Fl.Wf .f64 r ∧ Fl.Eqv .f64 r (sumN (xs.take k)) ∧ Drew w wr) (fun _ _ i _ => xs.length - (intOf i).toNat)
    case atStart => exact ⟨0, 0, Nat.zero_le _, rfl, rfl, wf0 _, Fl.Eqv.refl _ _, _, rfl⟩
    case round =>
      obtain ⟨k, r, hk, rfl, rfl, hw, he, m, rfl⟩ := hrel
      have HW := hid hw
      have HE := hid he
      clear hw he
      by_cases hlt : k < xs.length
      · obtain ⟨ad, rfl, had, hca⟩ := HA.out.at_ hlt
        have HS := hid (sumN_snoc xs hlt)
        have hkz : (k : Int) < (xs.length : Int) := by omega
        go_wp2_with fail
        refine upon_widen some_f32 Try.underlying28 ?_
        intro r1 n1 hr1
        have E1 := hid hr1.w
        clear hr1
        go_wp2_with fail
        refine upon_arith (.inl rfl) ?_
        intro r2 n2 hr2
        have E2 := hid hr2
        clear hr2
        go_wp2_with fail
        go_roundw
        case rel => exact ⟨k + 1, r2, by omega, by go_num, rfl, E2.out.1, by rw [HS.out]; exact E2.out.arith _ HE.out E1.out, _, rfl⟩
        case measure => simp [intOf]; omega
      · have : k = xs.length := by omega
        subst this
        go_wp2_with fail
        go_ret2
        exact ⟨r, by rw [HG.out]; rfl, HW.out, by rw [HV.out]; simpa using HE.out, below_drewN (Below.refl _ _) _⟩
  · have HV := hid (show sumV xs = 0 by unfold sumV; rw [hg]; rfl)
    go_enter Try.func20, Try.ntmps20
    go_wp2_with fail
    refine (good_impl _ _ _ _ HA.out hn).mono ?_
    rintro e w' ⟨rfl, n, rfl⟩
    rw [hg]
    have HG := hid hg
    clear hg
    go_wp2_with fail
    go_ret2
    exact ⟨0, by rw [HG.out]; rfl, wf0 _, by rw [HV.out]; exact Fl.Eqv.refl _ _, below_drewN (Below.refl _ _) _⟩

set_option maxHeartbeats 1000000 in
theorem sum_spec (A : Option Addr) (c : Nat) (xs : List Nat) (w : World) (ha : Sing w w.heap.size A xs) (hn : xs.length ≤ 1048576) :
    Calls Try.prog 19 #[.slice A xs.length c] w (RetFB .f64 (sumV xs) (goodB xs) w) := by
  have HA := hid ha
  clear ha
  rcases Bool.eq_false_or_eq_true (goodB xs) with hg | hg
  · have HV := hid (show sumV xs = sumN xs by unfold sumV; rw [hg]; rfl)
    have hlz : (xs.length : Int) ≤ 64 := by have := (goodB_iff.1 hg).1; omega
    go_enter Try.func19, Try.ntmps19
    go_wp2_with fail
    refine (good_spec _ _ _ _ HA.out hn).mono ?_
    rintro e w' ⟨rfl, n, rfl⟩
    rw [hg]
    have HG := hid hg
    clear hg
    go_wp2_with fail
    go_loopw [4, 5] (fun s i wr => ∃ (k r : Nat), k ≤ xs.length ∧ i = .int .i64 k ∧ s = .float .f64 r ∧ Fl.Wf .f64 r ∧ Fl.Eqv .f64 r (sumN (xs.take k)) ∧ Drew w wr) (fun _ i _ => xs.length - (intOf i).toNat)
    case atStart => exact ⟨0, 0, Nat.zero_le _, rfl, rfl, wf0 _, Fl.Eqv.refl _ _, _, rfl⟩
    case round =>
      obtain ⟨k, r, hk, rfl, rfl, hw, he, m, rfl⟩ := hrel
      have HW := hid hw
      have HE := hid he
      clear hw he
      by_cases hlt : k < xs.length
      · obtain ⟨ad, rfl, had, hca⟩ := HA.out.at_ hlt
        have HS := hid (sumN_snoc xs hlt)
        have hkz : (k : Int) < (xs.length : Int) := by omega
        go_wp2_with fail
        refine upon_widen some_f32 Try.underlying28 ?_
        intro r1 n1 hr1
        have E1 := hid hr1.w
        clear hr1
        go_wp2_with fail
        refine upon_arith (.inl rfl) ?_
        intro r2 n2 hr2
        have E2 := hid hr2
        clear hr2
        go_wp2_with fail
        go_roundw
        case rel => exact ⟨k + 1, r2, by omega, by go_num, rfl, E2.out.1, by rw [HS.out]; exact E2.out.arith _ HE.out E1.out, _, rfl⟩
        case measure => simp [intOf]; omega
      · have : k = xs.length := by omega
        subst this
        go_wp2_with fail
        go_ret2
        exact ⟨r, by rw [HG.out]; rfl, HW.out, by rw [HV.out]; simpa using HE.out, below_drewN (Below.refl _ _) _⟩
  · have HV := hid (show sumV xs = 0 by unfold sumV; rw [hg]; rfl)
    go_enter Try.func19, Try.ntmps19
    go_wp2_with fail
    refine (good_spec _ _ _ _ HA.out hn).mono ?_
    rintro e w' ⟨rfl, n, rfl⟩
    rw [hg]
    have HG := hid hg
    clear hg
    go_wp2_with fail
    go_ret2
    exact ⟨0, by rw [HG.out]; rfl, wf0 _, by rw [HV.out]; exact Fl.Eqv.refl _ _, below_drewN (Below.refl _ _) _⟩
end Go.Proofs.Ytgenphbackbepaa
