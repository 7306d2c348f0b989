/- The small numbers that are drawn: l01Mild. -/
import Derived.Test.YtbloipnpgncjiaaMildL
import Derived.Test.YtbloipnpgncjiaaCur
namespace Go.Proofs.Ytbloipnpgncjiaa
open Go.RowKit

theorem mild_bnd {a b : Nat} (ha : a < 400) (hb : b ∈ ([1, 2, 3, 4, 10, 16] : List Nat)) : bnd 8 (mildV ((a : Int) - 200) b) = true := by
  have h := mild_all
  rw [List.all_eq_true] at h
  have h1 := h a (List.mem_range.2 ha)
  rw [List.all_eq_true] at h1
  exact h1 b hb
theorem step_bnd {a b : Nat} (ha : a < 40) (hb : b ∈ ([1, 3, 8] : List Nat)) : 1040187392 ≤ Fl.ky .f32 (mildV ((a : Int) + 1) b) ∧ Fl.ky .f32 (mildV ((a : Int) + 1) b) ≤ K 6 := by
  have h := step_all
  rw [List.all_eq_true] at h
  have h1 := h a (List.mem_range.2 ha)
  rw [List.all_eq_true] at h1
  have h2 := h1 b hb
  simpa [stepC] using h2
theorem quo_mild {a b : Int} {j r : Nat} (hj : j ≤ 127) (h : bnd j (mildV a b) = true) (hr : Fl.Res .f32 (floatBits .quo .f32 (floatOfInt .f32 a) (floatOfInt .f32 b)) r) : r = mildV a b :=
  ((hr.arith _ (Fl.Eqv.refl _ _) (Fl.Eqv.refl _ _)).symm.eq _ (Fl.fin_nan .f32 (bnd_fin hj h))).symm

set_option maxRecDepth 20000 in
set_option maxHeartbeats 1000000 in
theorem mild_any (p : Nat) (w : World) (hc : Cur w p) :
    Calls Try.prog 105 #[.pointer (some ⟨p, 0, none⟩)] w fun e w' => ∃ x : Nat, e = .returned (.float .f32 x) ∧ bnd 8 x = true ∧ Cur w' p ∧ Upd p w w' := by
  have HC := hid hc
  have hp := hc.lt
  clear hc
  go_enter Try.func105, Try.ntmps105
  go_wp2_with fail
  refine (below_any _ _ _ HC.out (by decide) (by decide)).mono ?_
  rintro e w1 ⟨a, rfl, a0, a1, hc1, hu1⟩
  obtain ⟨x, rfl⟩ := Int.eq_ofNat_of_zero_le a0
  have HC1 := hid hc1
  have HU1 := hid hu1
  have hp1 := hc1.lt
  clear hc1 hu1
  go_wp2_with fail
  refine (pick_any p w1.heap.size 7 _ (fun b => ∃ k : Nat, k ∈ ([1, 2, 3, 4, 10, 16] : List Nat) ∧ b = (k : Int)) _ (HC1.out.next (below_new _ _)) (by decide) (by decide) (by omega) (by simp) ?_).mono ?_
  · intro j hj
    match j, hj with
    | 0, _ => exact ⟨1, by simp, 1, by simp, rfl⟩
    | 1, _ => exact ⟨1, by simp, 1, by simp, rfl⟩
    | 2, _ => exact ⟨2, by simp, 2, by simp, rfl⟩
    | 3, _ => exact ⟨4, by simp, 4, by simp, rfl⟩
    | 4, _ => exact ⟨3, by simp, 3, by simp, rfl⟩
    | 5, _ => exact ⟨10, by simp, 10, by simp, rfl⟩
    | 6, _ => exact ⟨16, by simp, 16, by simp, rfl⟩
  · rintro e w2 ⟨b, rfl, ⟨k, hk, rfl⟩, hc2, hu2⟩
    have HC2 := hid hc2
    have HU2 := hid ((HU1.out.alloc hp _).trans hu2)
    have HM := hid (mild_bnd (a := x) (b := k) (by omega) hk)
    clear hc2 hu2 hk
    go_wp2_with fail
    refine upon_arith (.inr (.inr (.inr rfl))) ?_
    intro r n hr
    have ER := hid (quo_mild (by decide) HM.out hr)
    clear hr
    go_wp2_with fail
    go_ret
    exact ⟨r, rfl, by rw [ER.out]; exact HM.out, HC2.out.drewN _, HU2.out.drewN _⟩
end Go.Proofs.Ytbloipnpgncjiaa
