/- The error of rounding to a double, held against a bound of what is summed. Plain laws. -/
import Derived.Test.YtgenphbackbepaaNum
namespace Go.Fl
open Ieee

/-- the error of a rounded magnitude -/
theorem rnd_err {m : Nat} {p : Int} (h : rnd double m p < double.infRung) : 2 * V double (rnd double m p) ≤ 2 * mv m p + (mv m p * pw (-52) + pw (-1074)) ∧ 2 * mv m p ≤ 2 * V double (rnd double m p) + (mv m p * pw (-52) + pw (-1074)) := by
  have p0 := pw_pos (-1074)
  by_cases hm : m = 0
  · subst hm
    have e : rnd double 0 p = 0 := by unfold rnd; rw [if_pos rfl]
    rw [e, V_zero, mv_zero]
    constructor <;> grind
  · have hv := V_rung double hm p
    have hr : rnd double m p = (lastOf double m p - double.leastPlace).toNat * double.binade + keptOf double m p := by
      unfold rnd at h ⊢
      rw [if_neg hm] at h ⊢
      omega
    rw [hr, hv]
    obtain ⟨h1, h2, _, _⟩ := kept_spec double m p
    have hb : pw (lastOf double m p) ≤ mv m p * pw (-52) + pw (-1074) := by
      have hmv := mv_nonneg m p
      have p1 := pw_pos (-52)
      have hmul := Rat.mul_nonneg hmv (Rat.le_of_lt p1)
      have hl := last_ge double m p
      rw [least64] at hl
      by_cases c : double.leastPlace < lastOf double m p
      · have := mv_ge_last double hm c
        rw [bin64, show ((2 ^ 52 : Nat) : Rat) = pw 52 from (pw_nat 52).symm] at this
        have h3 := Rat.mul_le_mul_of_nonneg_right this (Rat.le_of_lt p1)
        have e : pw 52 * pw (lastOf double m p) * pw (-52) = pw (lastOf double m p) := by
          have : pw 52 * pw (-52) = 1 := by rw [← pw_add]; exact pw_zero
          grind
        rw [e] at h3
        grind
      · rw [least64] at c
        have e : lastOf double m p = -1074 := by omega
        rw [e]
        grind
    have e2 : mv (keptOf double m p) (lastOf double m p) = (keptOf double m p : Rat) * pw (lastOf double m p) := rfl
    rw [e2]
    constructor <;> grind
/-- what is rounded, of a number that is at most twice M -/
theorem rv_err {q M : Rat} {k : Int} (h : RV double q k) (m1 : pw (-149) ≤ M) (m2 : M ≤ pw 200) (h1 : -(2 * M) ≤ q) (h2 : q ≤ 2 * M) :
    k.natAbs < double.infRung ∧ q - pw (-51) * M ≤ kv double k ∧ kv double k ≤ q + pw (-51) * M := by
  obtain ⟨r, e1, e2⟩ := repr64 (m := 1) (p := 201) (by decide) (by decide) (by decide)
  have er : kv double (r : Int) = pw 201 := by
    unfold kv
    rw [if_neg (by omega)]
    show V double r = _
    rw [e1]; unfold mv; rw [show ((1 : Nat) : Rat) = 1 from rfl, Rat.one_mul]
  have p201 : pw 201 = pw 200 * 2 := pw_succ 200
  have k1 : k ≤ (r : Int) := h.le_of double (by omega) (by rw [er, p201]; grind)
  have k2 : -(r : Int) ≤ k := h.ge_of double (by omega) (by rw [kv_neg, er, p201]; grind)
  have hk : k.natAbs < double.infRung := by omega
  refine ⟨hk, ?_⟩
  obtain ⟨s, m, p, hq, hkk⟩ := h
  have hrn : rnd double m p < double.infRung := by
    unfold sk at hkk
    split at hkk <;> omega
  obtain ⟨a, b⟩ := rnd_err hrn
  have hmv := mv_nonneg m p
  have hmq : mv m p ≤ 2 * M := by
    unfold sv at hq
    split at hq <;> grind
  have hv : kv double k = if s then -V double (rnd double m p) else V double (rnd double m p) := by
    rw [hkk]
    unfold sk
    split
    · rw [kv_neg]
      unfold kv
      rw [if_neg (by omega), Int.natAbs_natCast]
    · unfold kv
      rw [if_neg (by omega), Int.natAbs_natCast]
  have p52 := pw_pos (-52)
  have e51 : pw (-51) = pw (-52) * 2 := by rw [show (-51 : Int) = -52 + 1 by decide]; exact pw_succ _
  have t1 : mv m p * pw (-52) ≤ 2 * M * pw (-52) := Rat.mul_le_mul_of_nonneg_right hmq (Rat.le_of_lt p52)
  have t2 : pw (-1074) ≤ M * pw (-52) := by
    have a1 : pw (-149) * pw (-52) ≤ M * pw (-52) := Rat.mul_le_mul_of_nonneg_right m1 (Rat.le_of_lt p52)
    have a2 : pw (-1074) ≤ pw (-201) := pw_le (by decide)
    have a3 : pw (-149) * pw (-52) = pw (-201) := by rw [← pw_add]; rfl
    grind
  have m0 : 0 ≤ M := Rat.le_trans (Rat.le_of_lt (pw_pos _)) m1
  rw [hv]
  have eM : pw (-51) * M = 2 * (M * pw (-52)) := by rw [e51]; grind
  have t1' : mv m p * pw (-52) ≤ 2 * (M * pw (-52)) := by grind
  rw [eM]
  clear t1 eM e51 m0 p52 k1 k2 hkk hk h1 h2 er e1 p201
  generalize M * pw (-52) = t at *
  generalize mv m p * pw (-52) = y at *
  generalize V double (rnd double m p) = v at *
  unfold sv at hq
  cases s
  · simp only [if_neg (show ¬ (false = true) by decide)] at hq ⊢
    rw [← hq]
    constructor <;> grind
  · simp only [if_pos] at hq ⊢
    rw [← hq]
    constructor <;> grind
/-- a sum, a difference, a product of doubles, with its error -/
theorem add_err {x y : Nat} {M : Rat} (hx : fin double x = true) (hy : fin double y = true) (m1 : pw (-149) ≤ M) (m2 : M ≤ pw 200) (h1 : -(2 * M) ≤ kv double (key double x) + kv double (key double y)) (h2 : kv double (key double x) + kv double (key double y) ≤ 2 * M) :
    ∃ r, floatBits .add .f64 x y = some r ∧ fin double r = true ∧ kv double (key double x) + kv double (key double y) - pw (-51) * M ≤ kv double (key double r) ∧ kv double (key double r) ≤ kv double (key double x) + kv double (key double y) + pw (-51) * M := by
  obtain ⟨r, e, v, _, _⟩ := add_spec double hx hy
  obtain ⟨a, b⟩ := rv_err v m1 m2 h1 h2
  exact ⟨r, e, fin_key a, b⟩
theorem sub_err {x y : Nat} {M : Rat} (hx : fin double x = true) (hy : fin double y = true) (m1 : pw (-149) ≤ M) (m2 : M ≤ pw 200) (h1 : -(2 * M) ≤ kv double (key double x) - kv double (key double y)) (h2 : kv double (key double x) - kv double (key double y) ≤ 2 * M) :
    ∃ r, floatBits .sub .f64 x y = some r ∧ fin double r = true ∧ kv double (key double x) - kv double (key double y) - pw (-51) * M ≤ kv double (key double r) ∧ kv double (key double r) ≤ kv double (key double x) - kv double (key double y) + pw (-51) * M := by
  obtain ⟨r, e, v, _, _⟩ := sub_spec double hx hy
  obtain ⟨a, b⟩ := rv_err v m1 m2 h1 h2
  exact ⟨r, e, fin_key a, b⟩
theorem mul_err {x y : Nat} {M : Rat} (hx : fin double x = true) (hy : fin double y = true) (m1 : pw (-149) ≤ M) (m2 : M ≤ pw 200) (h1 : -(2 * M) ≤ kv double (key double x) * kv double (key double y)) (h2 : kv double (key double x) * kv double (key double y) ≤ 2 * M) :
    ∃ r, floatBits .mul .f64 x y = some r ∧ fin double r = true ∧ kv double (key double x) * kv double (key double y) - pw (-51) * M ≤ kv double (key double r) ∧ kv double (key double r) ≤ kv double (key double x) * kv double (key double y) + pw (-51) * M := by
  obtain ⟨r, e, v, _, _⟩ := mul_spec double hx hy
  obtain ⟨a, b⟩ := rv_err v m1 m2 h1 h2
  exact ⟨r, e, fin_key a, b⟩
end Go.Fl
