/- What Go's math.IsNaN, IsInf, Abs, Float64bits and Float64frombits, and the program's and the reference's finiteness tests return, for every word. -/
import Derived.Test.YtbloipnpgncjiaaRows
import Derived.Test.YtbloipnpgncjiaaFl
import Derived.WalkKit
import Derived.WalkSpells
import Derived.WalkLawsBesides
namespace Go.Proofs.Ytbloipnpgncjiaa
open Go.RowKit

/-- a fact kept from the walk -/
theorem hid {p : Prop} (h : p) : Hid p := h

theorem call_f64bits (a : Nat) (w : World) : (callFunc 135 #[.float .f64 a]).run Try.prog w = .ok (.value (.int .u64 a)) w := by
  rw [run_callFunc_extern (e := Extern.MathFloatBits.float64bits) Try.func135 (by kernel_rfl) (by kernel_rfl) (by kernel_rfl) (by kernel_rfl)]; rfl
theorem call_f64from (a : Int) (w : World) : (callFunc 134 #[.int .u64 a]).run Try.prog w = .ok (.value (.float .f64 a.toNat)) w := by
  rw [run_callFunc_extern (e := Extern.MathFloatBits.float64frombits) Try.func134 (by kernel_rfl) (by kernel_rfl) (by kernel_rfl) (by kernel_rfl)]; rfl

theorem andNot_abs (a : Nat) (ha : a < 2 ^ 64) : (bits .andNot .u64 (a : Int) 9223372036854775808).toNat = a % 2 ^ 63 := by
  have h := u64_andNot_nat a 9223372036854775808 (by omega) (by omega)
  have e : 18446744073709551615 - 9223372036854775808 = 2 ^ 63 - 1 := by decide
  rw [e, Nat.and_two_pow_sub_one_eq_mod] at h
  have h' : bits .andNot .u64 (a : Int) 9223372036854775808 = ((a % 2 ^ 63 : Nat) : Int) := h
  rw [h']; rfl

set_option maxHeartbeats 400000 in
theorem isnan_any (a : Nat) (w : World) :
    Calls Try.prog 113 #[.float .f64 a] w fun e w' => e = .returned (.bool (Fl.nan .f64 a)) ∧ w = w' := by
  go_enter Try.func113, Try.ntmps113
  go_wp2
  go_ret
  refine ⟨?_, rfl⟩
  rw [Fl.order_self]
  cases Fl.nan .f64 a <;> rfl

set_option maxHeartbeats 400000 in
theorem abs_any (a : Nat) (w : World) (ha : a < 2 ^ 64) :
    Calls Try.prog 127 #[.float .f64 a] w fun e w' => e = .returned (.float .f64 (Fl.rung Ieee.double a)) ∧ w = w' := by
  have h1 := call_f64bits
  have h2 := call_f64from
  have H := hid ha
  clear ha
  go_enter Try.func127, Try.ntmps127
  go_wp2
  go_ret
  refine ⟨?_, rfl⟩
  show Ending.returned (Value.float FloatKind.f64 (bits BinOp.andNot IntKind.u64 (a : Int) 9223372036854775808).toNat) = _
  rw [andNot_abs a H.out]
  rfl

theorem inf_gt (a : Nat) : Fl.gt .f64 (Fl.rung Ieee.double a) 9218868437227405311 = Fl.isI Ieee.double a := by
  have hs : Ieee.double.signWeight = 2 ^ 63 := by decide +kernel
  have hi : Ieee.double.infRung = 9218868437227405312 := by decide +kernel
  have hr : Fl.rung Ieee.double a < 2 ^ 63 := by rw [← hs]; exact Fl.rung_lt _ _
  have hrr : Fl.rung Ieee.double (Fl.rung Ieee.double a) = Fl.rung Ieee.double a := by
    show _ % _ = _
    rw [hs]; exact Nat.mod_eq_of_lt hr
  have hn : Fl.neg Ieee.double (Fl.rung Ieee.double a) = false := by
    unfold Fl.neg; rw [hs, Nat.div_eq_of_lt hr]; rfl
  have hk : Fl.ky .f64 (Fl.rung Ieee.double a) = (Fl.rung Ieee.double a : Int) := by
    show Fl.key Ieee.double _ = _
    unfold Fl.key; rw [hn, hrr]; rfl
  have hm : Fl.ky .f64 9218868437227405311 = 9218868437227405311 := by decide +kernel
  have hmn : Fl.nan .f64 9218868437227405311 = false := by decide +kernel
  rw [Fl.gt_ky, hk, hm, hmn]
  have e1 : Fl.nan .f64 (Fl.rung Ieee.double a) = decide (9218868437227405312 < Fl.rung Ieee.double a) := by
    show Fl.isN Ieee.double _ = _
    unfold Fl.isN; rw [hrr, hi]
  rw [e1]
  unfold Fl.isI
  rw [hi]
  rw [Bool.eq_iff_iff]
  simp
  omega

set_option maxHeartbeats 400000 in
theorem isinf_any (a : Nat) (w : World) (ha : a < 2 ^ 64) :
    Calls Try.prog 114 #[.float .f64 a, .int .i64 0] w fun e w' => e = .returned (.bool (Fl.isI Ieee.double a)) ∧ w = w' := by
  have H := hid ha
  clear ha
  go_enter Try.func114, Try.ntmps114
  go_wp2_with (go_at_call 127; refine (abs_any _ _ H.out).mono ?_; rintro e w' ⟨rfl, rfl⟩)
  go_ret
  refine ⟨?_, rfl⟩
  show Ending.returned (Value.bool (Fl.gt .f64 (Fl.rung Ieee.double a) 9218868437227405311)) = _
  rw [inf_gt]

/-- the finiteness test on a float64 -/
def finB (a : Nat) : Bool := Fl.fin Ieee.double a
theorem finB_of (a : Nat) : (!Fl.nan .f64 a && !Fl.isI Ieee.double a) = finB a := by
  show (!Fl.isN Ieee.double a && !Fl.isI Ieee.double a) = Fl.fin Ieee.double a
  unfold Fl.isN Fl.isI Fl.fin
  rw [Bool.eq_iff_iff]
  simp
  omega

set_option maxHeartbeats 400000 in
theorem finite_any (a : Nat) (w : World) (ha : a < 2 ^ 64) :
    Calls Try.prog 90 #[.float .f64 a] w fun e w' => e = .returned (.bool (finB a)) ∧ w = w' := by
  have H := hid ha
  clear ha
  rw [← finB_of]
  cases hn : Fl.nan .f64 a
  all_goals
    go_enter Try.func90, Try.ntmps90
    go_wp2_with (first | (go_at_call 113; refine (isnan_any _ _).mono ?_; rintro e w' ⟨rfl, rfl⟩) | (go_at_call 114; refine (isinf_any _ _ H.out).mono ?_; rintro e w' ⟨rfl, rfl⟩))
    go_ret
    exact ⟨rfl, rfl⟩

end Go.Proofs.Ytbloipnpgncjiaa
