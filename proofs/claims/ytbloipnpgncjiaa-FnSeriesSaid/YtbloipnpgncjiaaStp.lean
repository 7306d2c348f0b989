/- Steps of a correction: the program's StepOk, the operations, CorrectOne. -/
import Derived.Test.YtbloipnpgncjiaaQuad
import Derived.Test.YtbloipnpgncjiaaQuoL
namespace Go.Proofs.Ytbloipnpgncjiaa
open Go.RowKit Ieee

structure St where
  k : Nat
  b : Nat
  c : Nat
  q : Nat
  p : Int
abbrev stV (s : St) : Value := .agg #[.int .i64 (s.k : Int), .complex .f64 s.b s.c, .int .i64 (s.q : Int), .int .i64 s.p]
def Pow (p : Int) : Prop := p = 0 ∨ p = 1 ∨ p = -1 ∨ p = 3 ∨ p = -10 ∨ p = 30 ∨ p = 60 ∨ p = -60
def ky64 (x : Nat) : Int := Fl.key double x
/-- a part of a number that a step has -/
def Prt (x : Nat) : Prop := x < 2 ^ 64 ∧ Fl.fin double x = true ∧ -Fl.pw 700 ≤ Fl.kv double (ky64 x) ∧ Fl.kv double (ky64 x) ≤ Fl.pw 700
def StOk (s : St) : Prop := 1 ≤ s.k ∧ s.k ≤ 7 ∧ Prt s.b ∧ Prt s.c ∧ (s.k = 4 → ¬(ky64 s.b = 0 ∧ ky64 s.c = 0)) ∧ (5 ≤ s.k → ky64 s.b = 0 ∧ ky64 s.c = 0) ∧ (s.k = 7 → s.q < 4 ∧ Pow s.p) ∧ (s.k ≠ 7 → s.q = 0 ∧ s.p = 0)

theorem eq_zero {x : Nat} (h : Fl.fin double x = true) : (FloatKind.f64.format.order x 0 == some .eq) = decide (ky64 x = 0) := by
  have o := Fl.order_ky .f64 (Fl.fin_nan .f64 (show Fl.fin FloatKind.f64.format x = true from h)) (show Fl.nan .f64 0 = false by decide +kernel)
  rw [show Fl.ky .f64 0 = 0 from by decide +kernel] at o
  rw [o]
  show _ = decide (Fl.ky .f64 x = 0)
  rcases (show Fl.ky .f64 x < 0 ∨ Fl.ky .f64 x = 0 ∨ 0 < Fl.ky .f64 x by omega) with c | c | c
  · rw [Fl.cmp_lt c]; simp; omega
  · rw [c]; decide
  · rw [Fl.cmp_gt c]; simp; omega

set_option maxHeartbeats 400000 in
theorem isfin_any (a b : Nat) (ha : a < 2 ^ 64) (hb : b < 2 ^ 64) (w : World) :
    Calls Try.prog 49 #[.complex .f64 a b] w fun e w' => e = .returned (.bool (finB a && finB b)) ∧ w' = w := by
  have HA := hid ha
  have HB := hid hb
  clear ha hb
  go_enter Try.func49, Try.ntmps49
  go_wp2_with fail
  refine (finite_any _ _ HA.out).mono ?_
  rintro e w1 ⟨rfl, rfl⟩
  rcases Bool.eq_false_or_eq_true (finB a) with h | h
  · rw [h]
    have HH := hid h
    clear h
    go_wp2_with fail
    refine (finite_any _ _ HB.out).mono ?_
    rintro e w1 ⟨rfl, rfl⟩
    go_wp2_with fail
    go_ret
    exact ⟨by rw [HH.out, Bool.true_and]; rfl, rfl⟩
  · rw [h]
    have HH := hid h
    clear h
    go_wp2_with fail
    go_ret
    exact ⟨by rw [HH.out, Bool.false_and]; rfl, rfl⟩

set_option maxRecDepth 20000 in
set_option maxHeartbeats 1000000 in
theorem turnOk2_any (q : Nat) (p : Int) (hq : q < 4) (hp : Pow p) (w : World) :
    Calls Try.prog 93 #[.agg #[.int .i64 q, .int .i64 p]] w fun e w' => e = .returned (.bool true) ∧ Below w.heap.size w w' := by
  go_enter Try.func93, Try.ntmps93
  go_wp2_with fail
  refine (inI_impl _ _ _ _).mono ?_
  rintro e w1 ⟨rfl, rfl⟩
  rw [decide_eq_true (show (0 : Int) ≤ (q : Int) ∧ (q : Int) ≤ 3 by omega)]
  go_wp2_with fail
  refine (inI_impl _ _ _ _).mono ?_
  rintro e w1 ⟨rfl, rfl⟩
  rw [decide_eq_true (show (-60 : Int) ≤ p ∧ p ≤ 60 by unfold Pow at hp; omega)]
  go_wp2_with fail
  go_ret
  exact ⟨rfl, below_new _ _⟩

set_option maxRecDepth 20000 in
set_option maxHeartbeats 4000000 in
theorem stepOk_any (s : St) (hs : StOk s) (w : World) :
    Calls Try.prog 100 #[stV s] w fun e w' => e = .returned (.bool true) ∧ Below w.heap.size w w' := by
  obtain ⟨k, b, c, q, p⟩ := s
  obtain ⟨h1, h7, hb, hc, h4, h5, hq, hp⟩ := hs
  simp only at h1 h7 hb hc h4 h5 hq hp
  have e1 := eq_zero hb.2.1
  have e2 := eq_zero hc.2.1
  have HF := hid (show (finB b && finB c) = true by unfold finB; rw [hb.2.1, hc.2.1]; rfl)
  have HB := hid hb
  have HC := hid hc
  have HQ := hid hq
  have HP := hid hp
  clear hb hc hq hp
  go_enter Try.func100, Try.ntmps100
  go_wp2_with fail
  refine (inI_impl _ _ _ _).mono ?_
  rintro e w1 ⟨rfl, rfl⟩
  rw [decide_eq_true (show (1 : Int) ≤ (k : Int) ∧ (k : Int) ≤ 7 by omega)]
  have hk : k = 1 ∨ k = 2 ∨ k = 3 ∨ k = 4 ∨ k = 5 ∨ k = 6 ∨ k = 7 := by omega
  clear h1 h7
  rcases hk with rfl | rfl | rfl | rfl | rfl | rfl | rfl
  case inr.inr.inr.inr.inr.inr =>
    obtain ⟨z1, z2⟩ := h5 (by decide)
    obtain ⟨q1, q2⟩ := HQ.out rfl
    rw [decide_eq_true z1] at e1
    rw [decide_eq_true z2] at e2
    have Q1 := hid q1
    have Q2 := hid q2
    clear h4 h5 z1 z2 HQ HP q1 q2
    go_wp2_with fail
    refine (isfin_any _ _ HB.out.1 HC.out.1 _).mono ?_
    rintro e w1 ⟨rfl, rfl⟩
    rw [HF.out]
    go_wp2_with fail
    refine (turnOk2_any q p Q1.out Q2.out _).mono ?_
    rintro e w1 ⟨rfl, hb1⟩
    have HB1 := hid (bthen (below_new w _) hb1)
    clear hb1
    go_wp2_with fail
    go_ret
    exact ⟨rfl, HB1.out⟩
  case inr.inr.inr.inl =>
    obtain ⟨rfl, rfl⟩ := HP.out (by decide)
    have he : (FloatKind.f64.format.order b 0 == some .eq && FloatKind.f64.format.order c 0 == some .eq) = false := by
      rw [e1, e2]
      have := h4 rfl
      by_cases z1 : ky64 b = 0
      · by_cases z2 : ky64 c = 0
        · exact absurd ⟨z1, z2⟩ this
        · simp [z2]
      · simp [z1]
    clear h4 h5 HQ HP e1 e2
    go_wp2_with fail
    refine (isfin_any _ _ HB.out.1 HC.out.1 _).mono ?_
    rintro e w1 ⟨rfl, rfl⟩
    rw [HF.out]
    go_wp2
    go_ret
    exact ⟨rfl, below_new _ _⟩
  case inr.inr.inr.inr.inl =>
    obtain ⟨rfl, rfl⟩ := HP.out (by decide)
    obtain ⟨z1, z2⟩ := h5 (by decide)
    rw [decide_eq_true z1] at e1
    rw [decide_eq_true z2] at e2
    clear z1 z2 h4 h5 HQ HP
    go_wp2_with fail
    refine (isfin_any _ _ HB.out.1 HC.out.1 _).mono ?_
    rintro e w1 ⟨rfl, rfl⟩
    rw [HF.out]
    go_wp2
    go_ret
    exact ⟨rfl, below_new _ _⟩
  case inr.inr.inr.inr.inr.inl =>
    obtain ⟨rfl, rfl⟩ := HP.out (by decide)
    obtain ⟨z1, z2⟩ := h5 (by decide)
    rw [decide_eq_true z1] at e1
    rw [decide_eq_true z2] at e2
    clear z1 z2 h4 h5 HQ HP
    go_wp2_with fail
    refine (isfin_any _ _ HB.out.1 HC.out.1 _).mono ?_
    rintro e w1 ⟨rfl, rfl⟩
    rw [HF.out]
    go_wp2
    go_ret
    exact ⟨rfl, below_new _ _⟩
  all_goals
    obtain ⟨rfl, rfl⟩ := HP.out (by decide)
    clear e1 e2 h4 h5 HQ HP
    go_wp2_with fail
    refine (isfin_any _ _ HB.out.1 HC.out.1 _).mono ?_
    rintro e w1 ⟨rfl, rfl⟩
    rw [HF.out]
    go_wp2
    go_ret
    exact ⟨rfl, below_new _ _⟩

/-- the words of the powers of 2 -/
def powW (p : Int) : Nat := ((1023 + p) * 4503599627370496).toNat
theorem powW_fin {p : Int} (hp : Pow p) : Fl.fin double (powW p) = true := by
  rcases hp with rfl | rfl | rfl | rfl | rfl | rfl | rfl | rfl <;> decide +kernel

set_option maxRecDepth 20000 in
set_option maxHeartbeats 4000000 in
theorem ldexp0_pow (p : Int) (hp : Pow p) (w : World) : Calls Try.prog 129 #[.float .f64 oneW, .int .i64 p] w fun e w' => e = .returned (.float .f64 (powW p)) ∧ w' = w := by
  have o1 : (FloatKind.f64.format.order oneW 0 == some .eq) = false := by decide +kernel
  have i1 : Fl.isI Ieee.double oneW = false := by decide +kernel
  have i2 : Fl.nan .f64 oneW = false := by decide +kernel
  have h1 := call_f64bits
  have h2 := call_f64from
  have b1 : bits .and .i64 1023 2047 = 1023 := by decide +kernel
  have b2 : bits .andNot .u64 4607182418800017408 9218868437227405312 = 0 := by decide +kernel
  rcases hp with rfl | rfl | rfl | rfl | rfl | rfl | rfl | rfl
  · have b3 : bits .or .u64 0 4607182418800017408 = 4607182418800017408 := by decide +kernel
    have M := hid (show floatBits .mul .f64 4607182418800017408 4607182418800017408 = some 4607182418800017408 by decide +kernel)
    go_enter Try.func129, Try.ntmps129
    go_wp2_with fail
    refine (isinf_any oneW w (by decide)).mono ?_
    rintro e w1 ⟨rfl, rfl⟩
    rw [i1]
    go_wp2_with fail
    refine (isnan_any oneW _).mono ?_
    rintro e w1 ⟨rfl, rfl⟩
    rw [i2]
    go_wp2_with fail
    refine (norm_one _).mono ?_
    rintro e w1 ⟨rfl, rfl⟩
    go_wp2_with fail
    refine upon_bits M.out ?_
    go_wp2_with fail
    go_ret
    exact ⟨rfl, rfl⟩
  · have b3 : bits .or .u64 0 4611686018427387904 = 4611686018427387904 := by decide +kernel
    have M := hid (show floatBits .mul .f64 4607182418800017408 4611686018427387904 = some 4611686018427387904 by decide +kernel)
    go_enter Try.func129, Try.ntmps129
    go_wp2_with fail
    refine (isinf_any oneW w (by decide)).mono ?_
    rintro e w1 ⟨rfl, rfl⟩
    rw [i1]
    go_wp2_with fail
    refine (isnan_any oneW _).mono ?_
    rintro e w1 ⟨rfl, rfl⟩
    rw [i2]
    go_wp2_with fail
    refine (norm_one _).mono ?_
    rintro e w1 ⟨rfl, rfl⟩
    go_wp2_with fail
    refine upon_bits M.out ?_
    go_wp2_with fail
    go_ret
    exact ⟨rfl, rfl⟩
  · have b3 : bits .or .u64 0 4602678819172646912 = 4602678819172646912 := by decide +kernel
    have M := hid (show floatBits .mul .f64 4607182418800017408 4602678819172646912 = some 4602678819172646912 by decide +kernel)
    go_enter Try.func129, Try.ntmps129
    go_wp2_with fail
    refine (isinf_any oneW w (by decide)).mono ?_
    rintro e w1 ⟨rfl, rfl⟩
    rw [i1]
    go_wp2_with fail
    refine (isnan_any oneW _).mono ?_
    rintro e w1 ⟨rfl, rfl⟩
    rw [i2]
    go_wp2_with fail
    refine (norm_one _).mono ?_
    rintro e w1 ⟨rfl, rfl⟩
    go_wp2_with fail
    refine upon_bits M.out ?_
    go_wp2_with fail
    go_ret
    exact ⟨rfl, rfl⟩
  · have b3 : bits .or .u64 0 4620693217682128896 = 4620693217682128896 := by decide +kernel
    have M := hid (show floatBits .mul .f64 4607182418800017408 4620693217682128896 = some 4620693217682128896 by decide +kernel)
    go_enter Try.func129, Try.ntmps129
    go_wp2_with fail
    refine (isinf_any oneW w (by decide)).mono ?_
    rintro e w1 ⟨rfl, rfl⟩
    rw [i1]
    go_wp2_with fail
    refine (isnan_any oneW _).mono ?_
    rintro e w1 ⟨rfl, rfl⟩
    rw [i2]
    go_wp2_with fail
    refine (norm_one _).mono ?_
    rintro e w1 ⟨rfl, rfl⟩
    go_wp2_with fail
    refine upon_bits M.out ?_
    go_wp2_with fail
    go_ret
    exact ⟨rfl, rfl⟩
  · have b3 : bits .or .u64 0 4562146422526312448 = 4562146422526312448 := by decide +kernel
    have M := hid (show floatBits .mul .f64 4607182418800017408 4562146422526312448 = some 4562146422526312448 by decide +kernel)
    go_enter Try.func129, Try.ntmps129
    go_wp2_with fail
    refine (isinf_any oneW w (by decide)).mono ?_
    rintro e w1 ⟨rfl, rfl⟩
    rw [i1]
    go_wp2_with fail
    refine (isnan_any oneW _).mono ?_
    rintro e w1 ⟨rfl, rfl⟩
    rw [i2]
    go_wp2_with fail
    refine (norm_one _).mono ?_
    rintro e w1 ⟨rfl, rfl⟩
    go_wp2_with fail
    refine upon_bits M.out ?_
    go_wp2_with fail
    go_ret
    exact ⟨rfl, rfl⟩
  · have b3 : bits .or .u64 0 4742290407621132288 = 4742290407621132288 := by decide +kernel
    have M := hid (show floatBits .mul .f64 4607182418800017408 4742290407621132288 = some 4742290407621132288 by decide +kernel)
    go_enter Try.func129, Try.ntmps129
    go_wp2_with fail
    refine (isinf_any oneW w (by decide)).mono ?_
    rintro e w1 ⟨rfl, rfl⟩
    rw [i1]
    go_wp2_with fail
    refine (isnan_any oneW _).mono ?_
    rintro e w1 ⟨rfl, rfl⟩
    rw [i2]
    go_wp2_with fail
    refine (norm_one _).mono ?_
    rintro e w1 ⟨rfl, rfl⟩
    go_wp2_with fail
    refine upon_bits M.out ?_
    go_wp2_with fail
    go_ret
    exact ⟨rfl, rfl⟩
  · have b3 : bits .or .u64 0 4877398396442247168 = 4877398396442247168 := by decide +kernel
    have M := hid (show floatBits .mul .f64 4607182418800017408 4877398396442247168 = some 4877398396442247168 by decide +kernel)
    go_enter Try.func129, Try.ntmps129
    go_wp2_with fail
    refine (isinf_any oneW w (by decide)).mono ?_
    rintro e w1 ⟨rfl, rfl⟩
    rw [i1]
    go_wp2_with fail
    refine (isnan_any oneW _).mono ?_
    rintro e w1 ⟨rfl, rfl⟩
    rw [i2]
    go_wp2_with fail
    refine (norm_one _).mono ?_
    rintro e w1 ⟨rfl, rfl⟩
    go_wp2_with fail
    refine upon_bits M.out ?_
    go_wp2_with fail
    go_ret
    exact ⟨rfl, rfl⟩
  · have b3 : bits .or .u64 0 4336966441157787648 = 4336966441157787648 := by decide +kernel
    have M := hid (show floatBits .mul .f64 4607182418800017408 4336966441157787648 = some 4336966441157787648 by decide +kernel)
    go_enter Try.func129, Try.ntmps129
    go_wp2_with fail
    refine (isinf_any oneW w (by decide)).mono ?_
    rintro e w1 ⟨rfl, rfl⟩
    rw [i1]
    go_wp2_with fail
    refine (isnan_any oneW _).mono ?_
    rintro e w1 ⟨rfl, rfl⟩
    rw [i2]
    go_wp2_with fail
    refine (norm_one _).mono ?_
    rintro e w1 ⟨rfl, rfl⟩
    go_wp2_with fail
    refine upon_bits M.out ?_
    go_wp2_with fail
    go_ret
    exact ⟨rfl, rfl⟩

set_option maxRecDepth 20000 in
set_option maxHeartbeats 1000000 in
theorem ldexp_pow (p : Int) (hp : Pow p) (w : World) :
    Calls Try.prog 116 #[.float .f64 oneW, .int .i64 p] w fun e w' => e = .returned (.float .f64 (powW p)) ∧ w' = w := by
  go_enter Try.func116, Try.ntmps116
  go_wp2_with fail
  refine (ldexp0_pow p hp w).mono ?_
  rintro e w1 ⟨rfl, rfl⟩
  go_wp2_with fail
  go_ret
  exact ⟨rfl, rfl⟩
end Go.Proofs.Ytbloipnpgncjiaa
