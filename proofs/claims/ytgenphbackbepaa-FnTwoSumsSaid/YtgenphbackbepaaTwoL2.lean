/- The sum in order and the sum by halves of at most nine singles: the two comparisons of the law. Plain laws. -/
import Derived.Test.YtgenphbackbepaaTwoL
namespace Go.Proofs.Ytgenphbackbepaa
open Go.RowKit Ieee Go.Fl

/-- a million-millionth -/
abbrev cW : Nat := 4427486594234968593
theorem c_spec : fin double cW = true ∧ pw (-40) ≤ kv double (key double cW) ∧ kv double (key double cW) ≤ 1 := by
  have h := V_at double 982 (cW - 983 * 2 ^ 52) (by rw [bin64]; decide)
  rw [bin64, least64, show (982 + 1) * 2 ^ 52 + (cW - 983 * 2 ^ 52) = cW by decide +kernel] at h
  have hk : key double cW = (cW : Int) := by decide +kernel
  have hv : kv double (key double cW) = V double cW := by
    rw [hk]; unfold kv; rw [if_neg (by omega)]; rfl
  refine ⟨by decide +kernel, ?_, ?_⟩
  · rw [hv, h]
    unfold mv
    rw [show (-40 : Int) = 52 + (-1074 + ((982 : Nat) : Int)) by decide, pw_add]
    refine Rat.mul_le_mul_of_nonneg_right ?_ (Rat.le_of_lt (pw_pos _))
    rw [show pw 52 = ((2 ^ 52 : Nat) : Rat) from pw_nat 52]
    exact_mod_cast (by decide +kernel : 2 ^ 52 ≤ 2 ^ 52 + (cW - 983 * 2 ^ 52))
  · rw [hv, h]
    unfold mv
    have h1 : ((2 ^ 52 + (cW - 983 * 2 ^ 52) : Nat) : Rat) ≤ pw 53 := by
      rw [show pw 53 = ((2 ^ 53 : Nat) : Rat) from pw_nat 53]
      exact_mod_cast (by decide +kernel : 2 ^ 52 + (cW - 983 * 2 ^ 52) ≤ 2 ^ 53)
    have h2 := Rat.mul_le_mul_of_nonneg_right h1 (Rat.le_of_lt (pw_pos (-1074 + ((982 : Nat) : Int))))
    have h3 : pw 53 * pw (-1074 + ((982 : Nat) : Int)) ≤ 1 := by
      rw [← pw_add, ← pw_zero]
      exact pw_le (by decide)
    exact Rat.le_trans h2 h3
theorem key_of_kv {r : Nat} (h : kv double (key double r) = 0) : key double r = 0 := kv_inj double (by rw [h, kv_zero])
theorem inf0 : (0 : Int).natAbs < double.infRung := by rw [inf64r]; decide
theorem sub_zero {x y : Nat} (hx : fin double x = true) (hy : fin double y = true) (h1 : kv double (key double x) = 0) (h2 : kv double (key double y) = 0) : ∃ r, floatBits .sub .f64 x y = some r ∧ fin double r = true ∧ kv double (key double r) = 0 := by
  obtain ⟨r, e, v, _, _⟩ := sub_spec double hx hy
  have := v.exact double inf0 (by rw [h1, h2, kv_zero]; grind)
  exact ⟨r, e, fin_key (by rw [this]; exact inf0), by rw [this, kv_zero]⟩
theorem add_zero' {x y : Nat} (hx : fin double x = true) (hy : fin double y = true) (h1 : kv double (key double x) = 0) (h2 : kv double (key double y) = 0) : ∃ r, floatBits .add .f64 x y = some r ∧ fin double r = true ∧ kv double (key double r) = 0 := by
  obtain ⟨r, e, v, _, _⟩ := add_spec double hx hy
  have := v.exact double inf0 (by rw [h1, h2, kv_zero]; grind)
  exact ⟨r, e, fin_key (by rw [this]; exact inf0), by rw [this, kv_zero]⟩
theorem mul_zero' {x y : Nat} (hx : fin double x = true) (hy : fin double y = true) (h1 : kv double (key double x) = 0) : ∃ r, floatBits .mul .f64 x y = some r ∧ fin double r = true ∧ kv double (key double r) = 0 := by
  obtain ⟨r, e, v, _, _⟩ := mul_spec double hx hy
  have := v.exact double inf0 (by rw [h1, kv_zero]; grind)
  exact ⟨r, e, fin_key (by rw [this]; exact inf0), by rw [this, kv_zero]⟩
theorem most_zero : ∀ (xs : List Nat) (s : Nat), fin double s = true → kv double (key double s) = 0 → (∀ x ∈ xs, fin32 x = true ∧ key single x = 0) → fin double (xs.foldl mostS s) = true ∧ kv double (key double (xs.foldl mostS s)) = 0
  | [], s, h1, h2, _ => ⟨h1, h2⟩
  | x :: xs, s, h1, h2, h => by
    obtain ⟨a, b⟩ := h x List.mem_cons_self
    have hw : kv double (key double (wid x)) = 0 := by rw [wid_kv a, b, kv_zero]
    have hs : fin double (mostS s x) = true ∧ kv double (key double (mostS s x)) = 0 := by
      unfold mostS
      split
      · obtain ⟨r, e, f, v⟩ := sub_zero h1 (by rw [wid_fin]; exact a) h2 hw
        rw [arith_some e]; exact ⟨f, v⟩
      · obtain ⟨r, e, f, v⟩ := add_zero' h1 (by rw [wid_fin]; exact a) h2 hw
        rw [arith_some e]; exact ⟨f, v⟩
    exact most_zero xs _ hs.1 hs.2 (fun y hy => h y (List.mem_cons_of_mem _ hy))
theorem le_of_kv {x y : Nat} (hx : fin double x = true) (hy : fin double y = true) (h : kv double (key double x) ≤ kv double (key double y)) : Fl.le .f64 x y = true := by
  rw [Fl.le_ky, Fl.fin_nan .f64 (show Fl.fin double x = true from hx), Fl.fin_nan .f64 (show Fl.fin double y = true from hy)]
  have this : Fl.ky .f64 x ≤ Fl.ky .f64 y := (kv_le_iff double).1 h
  simpa using this
theorem btw_zero_kv {n r : Nat} (h : Btw n 0 0 r) : fin double r = true ∧ kv double (key double r) = 0 := by
  obtain ⟨a, _, b, c⟩ := h
  rw [kv_zero, Rat.mul_zero] at b c
  exact ⟨a, Rat.le_antisymm c b⟩

theorem two_sums {xs : List Nat} (hl : xs.length ≤ 9) (hx : ∀ x ∈ xs, fin32 x = true) :
    ∃ d1 d2 pr, floatBits .sub .f64 (sumN xs) (pairN xs) = some d1 ∧ floatBits .sub .f64 (pairN xs) (sumN xs) = some d2 ∧ floatBits .mul .f64 (mostN xs) cW = some pr ∧ Fl.le .f64 d1 pr = true ∧ Fl.le .f64 d2 pr = true ∧
      Fl.nan .f64 (mostN xs) = false ∧ Fl.nan .f64 (sumN xs) = false ∧ Fl.nan .f64 (pairN xs) = false := by
  have hg : goodB xs = true := goodB_iff.2 ⟨by omega, hx⟩
  by_cases hz : ∃ x ∈ xs, key single x ≠ 0
  · have m1 : pw (-149) ≤ sumM xs := sumM_low xs hz
    have m2 : sumM xs ≤ pw 200 := by
      have h1 := sumM_top xs hx
      have h2 : (xs.length : Rat) * pw 128 ≤ pw 4 * pw 128 := by
        refine Rat.mul_le_mul_of_nonneg_right ?_ (Rat.le_of_lt (pw_pos _))
        rw [show pw 4 = ((2 ^ 4 : Nat) : Rat) from pw_nat 4]
        exact_mod_cast (by omega : xs.length ≤ 2 ^ 4)
      have h3 : pw 4 * pw 128 ≤ pw 200 := by rw [← pw_add]; exact pw_le (by decide)
      exact Rat.le_trans h1 (Rat.le_trans h2 h3)
    obtain ⟨e0, e1⟩ := small m1
    have hL : (xs.length : Rat) * (pw (-51) * sumM xs) ≤ 9 * (pw (-51) * sumM xs) := Rat.mul_le_mul_of_nonneg_right (by exact_mod_cast hl) e0
    have z0 : ((0 : Nat) : Rat) * (pw (-51) * sumM xs) = 0 := by rw [show ((0 : Nat) : Rat) = 0 from rfl, Rat.zero_mul]
    have na := sum_near m1 m2 xs 0 0 0 0 (by rw [z0]; exact near_zero) (by grind) (by grind) (by grind) (by omega) hx
    have nb := pair_near m1 m2 63 xs (by omega) (by omega) (by grind) hx
    have nm := most_near m1 m2 xs 0 0 0 (by rw [z0]; exact near_zero) (by grind) (by grind) (by omega) hx
    rw [Nat.zero_add] at na nm
    have hA : Near (sumN xs) (sumX xs) (9 * (pw (-51) * sumM xs)) := ⟨na.1, by have := na.2.1; show _ ≤ kv double (key double (sumN xs)); unfold sumN; grind, by have := na.2.2; show kv double (key double (sumN xs)) ≤ _; unfold sumN; grind⟩
    have hB : Near (pairN xs) (sumX xs) (9 * (pw (-51) * sumM xs)) := by
      have i0 : (if xs.length = 0 then (0 : Rat) else pw (-51) * sumM xs) ≥ 0 := by split <;> grind
      refine ⟨nb.1, ?_, ?_⟩
      · have := nb.2.1
        show _ ≤ kv double (key double (pairF 64 xs))
        grind
      · have := nb.2.2
        show kv double (key double (pairF 64 xs)) ≤ _
        grind
    have hm1 := nm.2.1
    have hm2 := nm.2.2
    have hmf : fin double (mostN xs) = true := nm.1
    have hmk : xs.foldl mostS 0 = mostN xs := rfl
    rw [hmk] at hm1 hm2
    obtain ⟨b1, s1⟩ := near_sub m1 m2 hA hB (by grind) (by grind) (by grind)
    obtain ⟨b2, s2⟩ := near_sub m1 m2 hB hA (by grind) (by grind) (by grind)
    obtain ⟨c1, c2, c3⟩ := c_spec
    have hm0 : 0 ≤ kv double (key double (mostN xs)) := by grind
    have q1 : kv double (key double (mostN xs)) * pw (-40) ≤ kv double (key double (mostN xs)) * kv double (key double cW) := Rat.mul_le_mul_of_nonneg_left c2 hm0
    have q2 : kv double (key double (mostN xs)) * kv double (key double cW) ≤ kv double (key double (mostN xs)) * 1 := Rat.mul_le_mul_of_nonneg_left c3 hm0
    have q3 : pw (-40) = 2048 * pw (-51) := by
      rw [show (-40 : Int) = 11 + -51 by decide, pw_add, show pw 11 = ((2 ^ 11 : Nat) : Rat) from pw_nat 11]; rfl
    have q4 : (sumM xs - 9 * (pw (-51) * sumM xs)) * pw (-40) ≤ kv double (key double (mostN xs)) * pw (-40) := Rat.mul_le_mul_of_nonneg_right (by grind) (Rat.le_of_lt (pw_pos _))
    have q5 : pw (-40) ≤ 1 := by rw [← pw_zero]; exact pw_le (by decide)
    have q6 : (pw (-51) * sumM xs) * pw (-40) ≤ (pw (-51) * sumM xs) * 1 := Rat.mul_le_mul_of_nonneg_left q5 e0
    have q7 : sumM xs * pw (-40) = 2048 * (pw (-51) * sumM xs) := by rw [q3]; grind
    have q8 : 2039 * (pw (-51) * sumM xs) ≤ kv double (key double (mostN xs)) * kv double (key double cW) := by grind
    obtain ⟨pr, e3, f3, g1, g2⟩ := mul_err hmf c1 m1 m2 (by grind) (by grind)
    refine ⟨_, _, pr, b1, b2, e3, le_of_kv s1.1 f3 ?_, le_of_kv s2.1 f3 ?_, Fl.fin_nan .f64 (show Fl.fin double _ = true from hmf), Fl.fin_nan .f64 (show Fl.fin double _ = true from hA.1), Fl.fin_nan .f64 (show Fl.fin double _ = true from hB.1)⟩
    · have := s1.2.2; grind
    · have := s2.2.2; grind
  · have hk : ∀ x ∈ xs, key single x = 0 := fun x m => by
      by_cases c : key single x = 0
      · exact c
      · exact absurd ⟨x, m, c⟩ hz
    have i0 : (0 : Int).natAbs < single.infRung := by rw [inf32r]; decide
    obtain ⟨a1, a2⟩ := btw_zero_kv (sum_btw i0 i0 hg (fun x m => ⟨by rw [hk x m]; exact Int.le_refl _, by rw [hk x m]; exact Int.le_refl _⟩))
    obtain ⟨b1, b2⟩ := btw_zero_kv (pair_btw i0 i0 64 xs (by omega) (by omega) (fun x m => ⟨hx x m, by rw [hk x m]; exact Int.le_refl _, by rw [hk x m]; exact Int.le_refl _⟩))
    obtain ⟨c1, c2⟩ := most_zero xs 0 (by decide +kernel) (by rw [show key double 0 = 0 from by decide +kernel, kv_zero]) (fun x m => ⟨hx x m, hk x m⟩)
    obtain ⟨d1, e1, f1, v1⟩ := sub_zero a1 b1 a2 b2
    obtain ⟨d2, e2, f2, v2⟩ := sub_zero b1 a1 b2 a2
    obtain ⟨pr, e3, f3, v3⟩ := mul_zero' c1 c_spec.1 c2
    exact ⟨d1, d2, pr, e1, e2, e3, le_of_kv f1 f3 (by rw [v1, v3]; exact Rat.le_refl), le_of_kv f2 f3 (by rw [v2, v3]; exact Rat.le_refl), Fl.fin_nan .f64 (show Fl.fin double _ = true from c1), Fl.fin_nan .f64 (show Fl.fin double _ = true from a1), Fl.fin_nan .f64 (show Fl.fin double _ = true from b1)⟩
end Go.Proofs.Ytgenphbackbepaa
