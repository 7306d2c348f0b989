/- MeanOf, of the program and of the reference: the mean of a good list of one or more, as a single. -/
import Derived.Test.YtgenphbackbepaaSum
import Derived.Test.YtgenphbackbepaaNum
namespace Go.Proofs.Ytgenphbackbepaa
open Go.RowKit

section
variable {P : Program} {o : Oper} {a : Act} {K : Act → World → Prop} {Q : Exit → Act → World → Prop}
theorem upon_narrow {src dst : TypeId} {x r : Nat} {w : World} (hs : (P.underlying src).isSome = true) (hd : P.underlying dst = some (.float .f32)) (e : floatToFloatBits .f64 x .f32 = some r)
    (h : o.upon P a K Q (.ok (.value (.float .f32 r)) w)) :
    o.upon P a K Q (((convert src dst (.float .f64 x)).run P w).andThen fun v w' => .ok (.value v) w') := by
  rw [run_convert_float_float w src dst .f64 .f32 x r hs hd e]
  exact h
end

def meanQ (xs : List Nat) : Nat := Fl.arith .f64 .quo (sumN xs) (floatOfInt .f64 xs.length)
def meanB (xs : List Nat) : Bool := goodB xs && decide (0 < xs.length)
def meanV (xs : List Nat) : Nat := if meanB xs then Fl.nar (meanQ xs) else 0

theorem top32 : ((Ieee.single.infRung - 1 : Nat) : Int).natAbs < Ieee.single.infRung := by rw [Fl.inf32r]; decide +kernel
theorem bot32 : (-((Ieee.single.infRung - 1 : Nat) : Int)).natAbs < Ieee.single.infRung := by rw [Fl.inf32r]; decide +kernel
theorem sum_btw {g h : Int} (hg : g.natAbs < Ieee.single.infRung) (hh : h.natAbs < Ieee.single.infRung) {xs : List Nat} (hb : goodB xs = true) (hx : ∀ x ∈ xs, g ≤ Fl.key Ieee.single x ∧ Fl.key Ieee.single x ≤ h) : Fl.Btw xs.length g h (sumN xs) := by
  obtain ⟨h1, h2⟩ := goodB_iff.1 hb
  have := Fl.btw_sum hg hh xs 0 0 (by omega) (Fl.btw_zero g h) (fun x m => ⟨h2 x m, hx x m⟩)
  rw [Nat.zero_add] at this
  exact this
theorem all_btw {xs : List Nat} (hb : goodB xs = true) : ∀ x ∈ xs, -((Ieee.single.infRung - 1 : Nat) : Int) ≤ Fl.key Ieee.single x ∧ Fl.key Ieee.single x ≤ ((Ieee.single.infRung - 1 : Nat) : Int) := by
  intro x m
  have h2 := Fl.key_fin ((goodB_iff.1 hb).2 x m)
  omega
theorem meanB_iff {xs : List Nat} : meanB xs = true ↔ goodB xs = true ∧ 0 < xs.length := by simp [meanB]
theorem mean_btw {g h : Int} (hg : g.natAbs < Ieee.single.infRung) (hh : h.natAbs < Ieee.single.infRung) {xs : List Nat} (hb : meanB xs = true) (hx : ∀ x ∈ xs, g ≤ Fl.key Ieee.single x ∧ Fl.key Ieee.single x ≤ h) :
    floatToFloatBits .f64 (meanQ xs) .f32 = some (Fl.nar (meanQ xs)) ∧ Fl.nar (meanQ xs) < 2 ^ 32 ∧ fin32 (Fl.nar (meanQ xs)) = true ∧ g ≤ Fl.key Ieee.single (Fl.nar (meanQ xs)) ∧ Fl.key Ieee.single (Fl.nar (meanQ xs)) ≤ h := by
  obtain ⟨h1, h2⟩ := meanB_iff.1 hb
  have h3 := (goodB_iff.1 h1).1
  exact Fl.btw_nar hg hh (Fl.btw_div h2 (by omega) hg hh (sum_btw hg hh h1 hx))
theorem mean_nar {xs : List Nat} (hb : meanB xs = true) : floatToFloatBits .f64 (meanQ xs) .f32 = some (Fl.nar (meanQ xs)) ∧ Fl.nar (meanQ xs) < 2 ^ 32 := by
  have := mean_btw bot32 top32 hb (all_btw (meanB_iff.1 hb).1)
  exact ⟨this.1, this.2.1⟩
theorem sum_num {xs : List Nat} (hb : goodB xs = true) : Fl.nan .f64 (sumN xs) = false := Fl.fin_nan .f64 (sum_btw bot32 top32 hb (all_btw hb)).1
theorem meanQ_num {xs : List Nat} (hb : meanB xs = true) : Fl.nan .f64 (meanQ xs) = false := by
  obtain ⟨h1, h2⟩ := meanB_iff.1 hb
  have h3 := (goodB_iff.1 h1).1
  exact Fl.fin_nan .f64 (Fl.btw_div h2 (by omega) bot32 top32 (sum_btw bot32 top32 h1 (all_btw h1))).1

set_option maxHeartbeats 1000000 in
theorem mean_impl (A : Option Addr) (c : Nat) (xs : List Nat) (w : World) (ha : Sing w w.heap.size A xs) (hn : xs.length ≤ 1048576) :
    Calls Try.prog 27 #[.slice A xs.length c] w (RetFB .f32 (meanV xs) (meanB xs) w) := by
  have HA := hid ha
  clear ha
  rcases Bool.eq_false_or_eq_true (meanB xs) with hg | hg
  · have HV := hid (show meanV xs = Fl.nar (meanQ xs) by unfold meanV; rw [hg]; rfl)
    have HB := hid hg
    have hg1 := (meanB_iff.1 hg).1
    have h0z : 0 < xs.length := (meanB_iff.1 hg).2
    have h0y : ¬ ((xs.length : Int) = 0) := by omega
    have HN := hid (mean_nar hg)
    have HQ := hid (meanQ_num hg)
    have HX := hid (show sumV xs = sumN xs by unfold sumV; rw [hg1]; rfl)
    clear hg
    go_enter Try.func27, Try.ntmps27
    go_wp2_with fail
    refine (sum_impl _ _ _ _ HA.out hn).mono ?_
    rintro e w' ⟨r, rfl, hw, he, hb⟩
    have HE := hid he
    have H1 := hid hb
    clear he hb hw
    rw [hg1]
    clear hg1
    go_wp2_with fail
    refine upon_arith (.inr (.inr (.inr rfl))) ?_
    intro r3 n3 hr3
    have E3 : r3 = meanQ xs := ((hr3.arith _ (by rw [← HX.out]; exact HE.out) (Fl.Eqv.refl _ _)).symm.eq _ HQ.out).symm
    subst E3
    clear hr3
    go_wp2_with fail
    refine upon_narrow some_f64 Try.underlying23 HN.out.1 ?_
    go_wp2_with fail
    go_ret2
    exact ⟨_, by rw [HB.out]; rfl, HN.out.2, by rw [HV.out]; exact Fl.Eqv.refl _ _, below_drewN H1.out _⟩
  · have HV := hid (show meanV xs = 0 by unfold meanV; rw [hg]; rfl)
    have HB := hid hg
    clear hg
    rcases Bool.eq_false_or_eq_true (goodB xs) with hg | hg
    · have h2z : (xs.length : Int) = 0 := by
        rcases Nat.eq_zero_or_pos xs.length with h | h
        · omega
        · have := meanB_iff.2 ⟨hg, h⟩
          rw [HB.out] at this; cases this
      go_enter Try.func27, Try.ntmps27
      go_wp2_with fail
      refine (sum_impl _ _ _ _ HA.out hn).mono ?_
      rintro e w' ⟨r, rfl, hw, he, hb⟩
      have H1 := hid hb
      clear he hb hw
      rw [hg]
      clear hg
      go_wp2_with fail
      go_ret2
      exact ⟨0, by rw [HB.out]; rfl, wf0 _, by rw [HV.out]; exact Fl.Eqv.refl _ _, H1.out⟩
    · go_enter Try.func27, Try.ntmps27
      go_wp2_with fail
      refine (sum_impl _ _ _ _ HA.out hn).mono ?_
      rintro e w' ⟨r, rfl, hw, he, hb⟩
      have H1 := hid hb
      clear he hb hw
      rw [hg]
      clear hg
      go_wp2_with fail
      go_ret2
      exact ⟨0, by rw [HB.out]; rfl, wf0 _, by rw [HV.out]; exact Fl.Eqv.refl _ _, H1.out⟩

set_option maxHeartbeats 1000000 in
theorem mean_spec (A : Option Addr) (c : Nat) (xs : List Nat) (w : World) (ha : Sing w w.heap.size A xs) (hn : xs.length ≤ 1048576) :
    Calls Try.prog 26 #[.slice A xs.length c] w (RetFB .f32 (meanV xs) (meanB xs) w) := by
  have HA := hid ha
  clear ha
  rcases Bool.eq_false_or_eq_true (meanB xs) with hg | hg
  · have HV := hid (show meanV xs = Fl.nar (meanQ xs) by unfold meanV; rw [hg]; rfl)
    have HB := hid hg
    have hg1 := (meanB_iff.1 hg).1
    have h0z : 0 < xs.length := (meanB_iff.1 hg).2
    have h0y : ¬ ((xs.length : Int) = 0) := by omega
    have HN := hid (mean_nar hg)
    have HQ := hid (meanQ_num hg)
    have HX := hid (show sumV xs = sumN xs by unfold sumV; rw [hg1]; rfl)
    clear hg
    go_enter Try.func26, Try.ntmps26
    go_wp2_with fail
    refine (sum_spec _ _ _ _ HA.out hn).mono ?_
    rintro e w' ⟨r, rfl, hw, he, hb⟩
    have HE := hid he
    have H1 := hid hb
    clear he hb hw
    rw [hg1]
    clear hg1
    go_wp2_with fail
    refine upon_arith (.inr (.inr (.inr rfl))) ?_
    intro r3 n3 hr3
    have E3 : r3 = meanQ xs := ((hr3.arith _ (by rw [← HX.out]; exact HE.out) (Fl.Eqv.refl _ _)).symm.eq _ HQ.out).symm
    subst E3
    clear hr3
    go_wp2_with fail
    refine upon_narrow some_f64 Try.underlying23 HN.out.1 ?_
    go_wp2_with fail
    go_ret2
    exact ⟨_, by rw [HB.out]; rfl, HN.out.2, by rw [HV.out]; exact Fl.Eqv.refl _ _, below_drewN H1.out _⟩
  · have HV := hid (show meanV xs = 0 by unfold meanV; rw [hg]; rfl)
    have HB := hid hg
    clear hg
    rcases Bool.eq_false_or_eq_true (goodB xs) with hg | hg
    · have h2z : (xs.length : Int) = 0 := by
        rcases Nat.eq_zero_or_pos xs.length with h | h
        · omega
        · have := meanB_iff.2 ⟨hg, h⟩
          rw [HB.out] at this; cases this
      go_enter Try.func26, Try.ntmps26
      go_wp2_with fail
      refine (sum_spec _ _ _ _ HA.out hn).mono ?_
      rintro e w' ⟨r, rfl, hw, he, hb⟩
      have H1 := hid hb
      clear he hb hw
      rw [hg]
      clear hg
      go_wp2_with fail
      go_ret2
      exact ⟨0, by rw [HB.out]; rfl, wf0 _, by rw [HV.out]; exact Fl.Eqv.refl _ _, H1.out⟩
    · go_enter Try.func26, Try.ntmps26
      go_wp2_with fail
      refine (sum_spec _ _ _ _ HA.out hn).mono ?_
      rintro e w' ⟨r, rfl, hw, he, hb⟩
      have H1 := hid hb
      clear he hb hw
      rw [hg]
      clear hg
      go_wp2_with fail
      go_ret2
      exact ⟨0, by rw [HB.out]; rfl, wf0 _, by rw [HV.out]; exact Fl.Eqv.refl _ _, H1.out⟩
end Go.Proofs.Ytgenphbackbepaa
