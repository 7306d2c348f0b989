/- Plain facts on IEEE words, no program in sight: rounding is monotone and exact on what the format has, words are ordered as their keys, and what sums, products, quotients and the widening give. -/
import Ieee.Arith
import Derived.Laws.FloatArith
namespace Go.Fl
open Ieee

theorem cut_spec (s : Bool) (n drop : Nat) :
    2 * n ≤ (2 * Toward.even.cut s n drop + 1) * 2 ^ drop ∧ 2 * Toward.even.cut s n drop * 2 ^ drop ≤ 2 * n + 2 ^ drop ∧
    (2 * n = (2 * Toward.even.cut s n drop + 1) * 2 ^ drop → Toward.even.cut s n drop % 2 = 0) ∧
    (2 * Toward.even.cut s n drop * 2 ^ drop = 2 * n + 2 ^ drop → Toward.even.cut s n drop % 2 = 0) := by
  unfold Toward.cut
  simp only [Nat.one_shiftLeft]
  by_cases hd : drop ≤ n.log2 + 2
  · rw [Nat.min_eq_left hd]
    have hg : 0 < 2 ^ drop := Nat.two_pow_pos _
    generalize 2 ^ drop = g at *
    have h1 := Nat.div_add_mod n g
    have h2 := Nat.mod_lt n hg
    generalize n / g = q at *
    generalize n % g = r at *
    have e1 : (2 * q + 1) * g = 2 * (g * q) + g := by rw [Nat.add_mul, Nat.mul_assoc, Nat.mul_comm q g]; omega
    have e2 : 2 * q * g = 2 * (g * q) := by rw [Nat.mul_assoc, Nat.mul_comm q g]
    have e3 : (2 * (q + 1) + 1) * g = 2 * (g * q) + 3 * g := by
      rw [show 2 * (q + 1) + 1 = 2 * q + 1 + 2 from by omega, Nat.add_mul, e1]; omega
    have e4 : 2 * (q + 1) * g = 2 * (g * q) + 2 * g := by
      rw [show 2 * (q + 1) = 2 * q + 2 from by omega, Nat.add_mul, e2]
    by_cases c1 : g < 2 * r
    · have : (decide (g < 2 * r) || (g == 2 * r && q % 2 == 1)) = true := by simp [c1]
      simp only [this, Bool.toNat_true]
      rw [e3, e4]
      omega
    · by_cases c2 : g = 2 * r ∧ q % 2 = 1
      · have : (decide (g < 2 * r) || (g == 2 * r && q % 2 == 1)) = true := by simp [c2.1, c2.2]
        simp only [this, Bool.toNat_true]
        rw [e3, e4]
        omega
      · have : (decide (g < 2 * r) || (g == 2 * r && q % 2 == 1)) = false := by
          simp only [Bool.or_eq_false_iff, decide_eq_false_iff_not, Bool.and_eq_false_iff, beq_eq_false_iff_ne]
          omega
        simp only [this, Bool.toNat_false, Nat.add_zero]
        rw [e1, e2]
        omega
  · rw [Nat.min_eq_right (by omega)]
    have hn : n < 2 ^ (n.log2 + 1) := Nat.lt_log2_self
    have hp : 2 ^ (n.log2 + 2) = 2 * 2 ^ (n.log2 + 1) := by rw [Nat.pow_succ, Nat.mul_comm]
    have hdp : 2 ^ (n.log2 + 2) ≤ 2 ^ drop := Nat.pow_le_pow_right (by omega) (by omega)
    have hq : n / 2 ^ (n.log2 + 2) = 0 := Nat.div_eq_of_lt (by omega)
    have hr : n % 2 ^ (n.log2 + 2) = n := Nat.mod_eq_of_lt (by omega)
    rw [hq, hr]
    have : (decide (2 ^ (n.log2 + 2) < 2 * n) || (2 ^ (n.log2 + 2) == 2 * n && 0 % 2 == 1)) = false := by
      simp; omega
    simp only [this, Bool.toNat_false, Nat.add_zero]
    omega

/-! ### powers of two as rational numbers -/

def pw (e : Int) : Rat := (2 : Rat) ^ e

theorem pw_pos (e : Int) : 0 < pw e := Rat.zpow_pos (by decide)
theorem pw_ne (e : Int) : pw e ≠ 0 := fun h => by have := pw_pos e; rw [h] at this; exact Rat.lt_irrefl this
theorem pw_add (a b : Int) : pw (a + b) = pw a * pw b := Rat.zpow_add (by decide) a b
theorem pw_zero : pw 0 = 1 := Rat.zpow_zero 2
theorem pw_nat (n : Nat) : pw n = ((2 ^ n : Nat) : Rat) := by
  unfold pw; rw [Rat.zpow_natCast, Rat.natCast_pow]; rfl
theorem pw_one : pw 1 = 2 := Rat.zpow_one 2
theorem pw_succ (a : Int) : pw (a + 1) = pw a * 2 := by rw [pw_add, pw_one]
theorem pw_split {a b : Int} (h : b ≤ a) : pw a = ((2 ^ (a - b).toNat : Nat) : Rat) * pw b := by
  rw [← pw_nat, ← pw_add]; congr 1; omega
theorem pw_le {a b : Int} (h : b ≤ a) : pw b ≤ pw a := by
  rw [pw_split h]
  have h1 : (1 : Rat) ≤ ((2 ^ (a - b).toNat : Nat) : Rat) := by
    have := Nat.two_pow_pos (a - b).toNat
    exact_mod_cast this
  have := Rat.mul_le_mul_of_nonneg_right h1 (Rat.le_of_lt (pw_pos b))
  rw [Rat.one_mul] at this; exact this
theorem pw_lt {a b : Int} (h : b < a) : pw b < pw a := by
  have h1 := pw_le (show b + 1 ≤ a by omega)
  rw [pw_succ] at h1
  have := pw_pos b
  grind

/-! ### a finite number rounded -/

section
variable (f : Format)

def lastOf (m : Nat) (p : Int) : Int := max (p + m.log2 - f.fractionBits) f.leastPlace
def keptOf (m : Nat) (p : Int) : Nat := Toward.even.cut false (m <<< (p - lastOf f m p).toNat) (lastOf f m p - p).toNat
/-- the rung of 'm * 2^p', rounded -/
def rnd (m : Nat) (p : Int) : Nat := if m = 0 then 0 else min ((lastOf f m p - f.leastPlace).toNat * f.binade + keptOf f m p) f.infRung

theorem cut_sign (s : Bool) (n d : Nat) : Toward.even.cut s n d = Toward.even.cut false n d := rfl

theorem nearest_rnd (s : Bool) (m : Nat) (p : Int) : f.nearest s m p = f.word s (rnd f m p) := by
  unfold Format.nearest rnd keptOf lastOf
  by_cases h : m = 0
  · simp [h]
  · simp only [h, if_false]; rfl

/-- the rational value of a magnitude -/
def mv (m : Nat) (p : Int) : Rat := (m : Rat) * pw p

theorem mv_scale (m : Nat) {p l : Int} (h : l ≤ p) : mv m p = mv (m <<< (p - l).toNat) l := by
  unfold mv
  rw [Nat.shiftLeft_eq, Rat.natCast_mul, pw_split h, Rat.mul_assoc]

/-- the value that is kept, held against what was there -/
theorem kept_spec (m : Nat) (p : Int) :
    2 * mv m p ≤ (2 * (keptOf f m p : Rat) + 1) * pw (lastOf f m p) ∧ 2 * (keptOf f m p : Rat) * pw (lastOf f m p) ≤ 2 * mv m p + pw (lastOf f m p) ∧
    (2 * mv m p = (2 * (keptOf f m p : Rat) + 1) * pw (lastOf f m p) → keptOf f m p % 2 = 0) ∧
    (2 * (keptOf f m p : Rat) * pw (lastOf f m p) = 2 * mv m p + pw (lastOf f m p) → keptOf f m p % 2 = 0) := by
  have hc := cut_spec false (m <<< (p - lastOf f m p).toNat) (lastOf f m p - p).toNat
  unfold keptOf
  generalize hl : lastOf f m p = l at *
  generalize hn : m <<< (p - l).toNat = n at *
  generalize Toward.even.cut false n (l - p).toNat = c at *
  -- the number in units of 'pw (l - d)'
  have hx : mv m p = (n : Rat) * pw (l - (l - p).toNat) := by
    by_cases h : l ≤ p
    · rw [mv_scale m h, hn]; unfold mv; congr 2; omega
    · have h1 : (p - l).toNat = 0 := by omega
      rw [h1] at hn
      simp at hn
      subst hn
      unfold mv; congr 2; omega
  have hl' : pw l = ((2 ^ (l - p).toNat : Nat) : Rat) * pw (l - (l - p).toNat) := by
    rw [← pw_nat, ← pw_add]; congr 1; omega
  have hp := pw_pos (l - (l - p).toNat)
  generalize pw (l - (l - p).toNat) = u at *
  rw [hx, hl']
  generalize 2 ^ (l - p).toNat = g at *
  obtain ⟨h1, h2, h3, h4⟩ := hc
  have h1' : (2 * (n : Rat)) ≤ (2 * (c : Rat) + 1) * (g : Rat) := by exact_mod_cast h1
  have h2' : (2 * (c : Rat)) * (g : Rat) ≤ 2 * (n : Rat) + (g : Rat) := by exact_mod_cast h2
  refine ⟨?_, ?_, fun h => h3 ?_, fun h => h4 ?_⟩
  · have := Rat.mul_le_mul_of_nonneg_right h1' (Rat.le_of_lt hp)
    grind
  · have := Rat.mul_le_mul_of_nonneg_right h2' (Rat.le_of_lt hp)
    grind
  · have h' : (2 * (n : Rat)) * u = ((2 * (c : Rat) + 1) * (g : Rat)) * u := by grind
    have h'' : (2 * (n : Rat)) = ((2 * (c : Rat) + 1) * (g : Rat)) := by
      apply Rat.le_antisymm
      · exact h1'
      · exact Rat.le_of_mul_le_mul_right (by rw [h']; exact Rat.le_refl) hp
    exact_mod_cast h''
  · have h' : ((2 * (c : Rat)) * (g : Rat)) * u = (2 * (n : Rat) + (g : Rat)) * u := by grind
    have h'' : ((2 * (c : Rat)) * (g : Rat)) = (2 * (n : Rat) + (g : Rat)) := by
      apply Rat.le_antisymm
      · exact h2'
      · exact Rat.le_of_mul_le_mul_right (by rw [h']; exact Rat.le_refl) hp
    exact_mod_cast h''
end

section
variable (f : Format)

theorem mv_pos {m : Nat} (h : m ≠ 0) (p : Int) : 0 < mv m p := by
  unfold mv
  exact Rat.mul_pos (by exact_mod_cast Nat.pos_of_ne_zero h) (pw_pos p)
theorem mv_nonneg (m : Nat) (p : Int) : 0 ≤ mv m p := by
  unfold mv
  exact Rat.mul_nonneg (by exact_mod_cast Nat.zero_le m) (Rat.le_of_lt (pw_pos p))
theorem mv_zero (p : Int) : mv 0 p = 0 := by unfold mv; simp

theorem mv_lo {m : Nat} (h : m ≠ 0) (p : Int) : pw (p + m.log2) ≤ mv m p := by
  unfold mv
  rw [Int.add_comm, pw_add, pw_nat]
  exact Rat.mul_le_mul_of_nonneg_right (by exact_mod_cast Nat.log2_self_le h) (Rat.le_of_lt (pw_pos p))
theorem mv_hi (m : Nat) (p : Int) : mv m p < pw (p + m.log2 + 1) := by
  unfold mv
  have : pw (p + m.log2 + 1) = ((2 ^ (m.log2 + 1) : Nat) : Rat) * pw p := by rw [← pw_nat, ← pw_add]; congr 1; omega
  rw [this]
  exact Rat.mul_lt_mul_of_pos_right (by exact_mod_cast Nat.lt_log2_self) (pw_pos p)

theorem binade_pw : ((f.binade : Nat) : Rat) = pw f.fractionBits := by rw [pw_nat]; rfl
theorem binade_pos : 0 < f.binade := Nat.two_pow_pos _

theorem last_ge (m : Nat) (p : Int) : f.leastPlace ≤ lastOf f m p := by unfold lastOf; omega

/-- below '2 * binade' units of the last place that is kept -/
theorem mv_lt_last (m : Nat) (p : Int) : mv m p < 2 * (f.binade : Rat) * pw (lastOf f m p) := by
  have h := mv_hi m p
  have h2 : pw (p + m.log2 + 1) ≤ pw (1 + f.fractionBits + lastOf f m p) := pw_le (by unfold lastOf; omega)
  have h3 : pw (1 + f.fractionBits + lastOf f m p) = 2 * (f.binade : Rat) * pw (lastOf f m p) := by rw [pw_add, pw_add, pw_one, ← binade_pw]
  rw [h3] at h2
  grind
/-- at least 'binade' units, but in the lowest binade -/
theorem mv_ge_last {m : Nat} (hm : m ≠ 0) {p : Int} (h : f.leastPlace < lastOf f m p) : (f.binade : Rat) * pw (lastOf f m p) ≤ mv m p := by
  have h2 : pw (f.fractionBits + lastOf f m p) ≤ pw (p + m.log2) := pw_le (by unfold lastOf at *; omega)
  rw [pw_add, ← binade_pw] at h2
  exact Rat.le_trans h2 (mv_lo hm p)

theorem kept_le (m : Nat) (p : Int) : keptOf f m p ≤ 2 * f.binade := by
  have h1 := (kept_spec f m p).2.1
  have h2 := mv_lt_last f m p
  have hp := pw_pos (lastOf f m p)
  have : (2 * (keptOf f m p : Rat)) * pw (lastOf f m p) < (4 * (f.binade : Rat) + 1) * pw (lastOf f m p) := by grind
  have := Rat.lt_of_mul_lt_mul_right this (Rat.le_of_lt hp)
  have : 2 * keptOf f m p < 4 * f.binade + 1 := by exact_mod_cast this
  omega
theorem kept_ge {m : Nat} (hm : m ≠ 0) {p : Int} (h : f.leastPlace < lastOf f m p) : f.binade ≤ keptOf f m p := by
  have h1 := (kept_spec f m p).1
  have h2 := mv_ge_last f hm h
  have hp := pw_pos (lastOf f m p)
  have : (2 * (f.binade : Rat)) * pw (lastOf f m p) ≤ (2 * (keptOf f m p : Rat) + 1) * pw (lastOf f m p) := by grind
  have := Rat.le_of_mul_le_mul_right this hp
  have : 2 * f.binade ≤ 2 * keptOf f m p + 1 := by exact_mod_cast this
  omega

/-- ROUNDING IS MONOTONE. -/
theorem rnd_mono {m n : Nat} {p q : Int} (h : mv m p ≤ mv n q) : rnd f m p ≤ rnd f n q := by
  unfold rnd
  by_cases hm : m = 0
  · simp [hm]
  by_cases hn : n = 0
  · subst hn
    rw [mv_zero] at h
    have := mv_pos hm p
    grind
  simp only [hm, hn, if_false]
  have gm := last_ge f m p
  have gn := last_ge f n q
  have km := kept_le f m p
  have kn := kept_le f n q
  suffices hh : (lastOf f m p - f.leastPlace).toNat * f.binade + keptOf f m p ≤ (lastOf f n q - f.leastPlace).toNat * f.binade + keptOf f n q by omega
  rcases Int.lt_trichotomy (lastOf f m p) (lastOf f n q) with hlt | heq | hgt
  · have hk := kept_ge f hn (show f.leastPlace < lastOf f n q by omega)
    have : ((lastOf f m p - f.leastPlace).toNat + 1) * f.binade ≤ (lastOf f n q - f.leastPlace).toNat * f.binade := Nat.mul_le_mul_right _ (by omega)
    rw [Nat.add_mul] at this
    omega
  · rw [heq]
    apply Nat.add_le_add_left
    have s1 := kept_spec f m p
    have s2 := kept_spec f n q
    rw [heq] at s1
    have hp := pw_pos (lastOf f n q)
    have h1 : (2 * (keptOf f m p : Rat)) * pw (lastOf f n q) ≤ (2 * (keptOf f n q : Rat) + 2) * pw (lastOf f n q) := by grind
    have h2 := Rat.le_of_mul_le_mul_right h1 hp
    have h3 : 2 * keptOf f m p ≤ 2 * keptOf f n q + 2 := by exact_mod_cast h2
    by_cases h4 : keptOf f m p = keptOf f n q + 1
    · exfalso
      have h5 : ((keptOf f m p : Nat) : Rat) = (keptOf f n q : Rat) + 1 := by exact_mod_cast h4
      obtain ⟨a1, a2, _, a4⟩ := s1
      obtain ⟨b1, b2, b3, _⟩ := s2
      have e1 := a4 (Rat.le_antisymm a2 (by rw [h5]; clear a4 b3; grind))
      have e2 := b3 (Rat.le_antisymm b1 (by rw [h5] at a2; clear a4 b3; grind))
      omega
    · omega
  · exfalso
    have h1 := mv_ge_last f hm (show f.leastPlace < lastOf f m p by omega)
    have h2 := mv_lt_last f n q
    have h3 : pw (lastOf f n q + 1) ≤ pw (lastOf f m p) := pw_le (by omega)
    rw [pw_succ] at h3
    have h4 : (0 : Rat) ≤ (f.binade : Rat) := by exact_mod_cast Nat.zero_le _
    have h5 := Rat.mul_le_mul_of_nonneg_left h3 h4
    grind

/-- the value of a rung -/
def V (r : Nat) : Rat := if r < f.binade then mv r f.leastPlace else mv (f.binade + r % f.binade) (f.leastPlace + (r / f.binade - 1 : Nat))

/-- 'q' binades up and 's' more -/
theorem V_at (q s : Nat) (hs : s ≤ f.binade) : V f ((q + 1) * f.binade + s) = mv (f.binade + s) (f.leastPlace + q) := by
  have hb := binade_pos f
  unfold V
  rw [if_neg (by rw [Nat.add_mul]; omega)]
  rcases Nat.lt_or_eq_of_le hs with h | h
  · have e1 : ((q + 1) * f.binade + s) % f.binade = s := by rw [Nat.add_comm, Nat.add_mul_mod_self_right]; exact Nat.mod_eq_of_lt h
    have e2 : ((q + 1) * f.binade + s) / f.binade = q + 1 := by rw [Nat.add_comm, Nat.add_mul_div_right _ _ hb, Nat.div_eq_of_lt h]; omega
    rw [e1, e2]; simp
  · subst h
    have e0 : (q + 1) * f.binade + f.binade = (q + 2) * f.binade := by rw [Nat.add_mul, Nat.add_mul]; omega
    rw [e0]
    have e1 : ((q + 2) * f.binade) % f.binade = 0 := by simp
    have e2 : ((q + 2) * f.binade) / f.binade = q + 2 := Nat.mul_div_left _ hb
    rw [e1, e2]
    unfold mv
    have : (f.leastPlace + ((q + 2 - 1 : Nat) : Int)) = (f.leastPlace + q) + 1 := by omega
    rw [this, pw_succ]
    have : ((f.binade + f.binade : Nat) : Rat) = 2 * (f.binade : Rat) := by rw [Rat.natCast_add]; grind
    rw [this, Nat.add_zero]
    grind
theorem V_low (s : Nat) (hs : s ≤ f.binade) : V f s = mv s f.leastPlace := by
  rcases Nat.lt_or_eq_of_le hs with h | h
  · unfold V; rw [if_pos h]
  · have := V_at f 0 0 (Nat.zero_le _)
    simp at this
    rw [h, this]
theorem V_zero : V f 0 = 0 := by rw [V_low f 0 (Nat.zero_le _), mv_zero]

/-- a rung and the next one -/
theorem V_step (r : Nat) : V f r < V f (r + 1) := by
  have hb := binade_pos f
  by_cases h : r < f.binade
  · rw [V_low f r (by omega), V_low f (r + 1) (by omega)]
    exact Rat.mul_lt_mul_of_pos_right (by exact_mod_cast Nat.lt_succ_self r) (pw_pos _)
  · have hd : r / f.binade ≠ 0 := by
      have := Nat.div_pos (show f.binade ≤ r by omega) hb
      omega
    obtain ⟨q, hq⟩ : ∃ q, r / f.binade = q + 1 := ⟨r / f.binade - 1, (Nat.sub_add_cancel (Nat.one_le_iff_ne_zero.2 hd)).symm⟩
    have hr : r = (q + 1) * f.binade + r % f.binade := by
      have := Nat.div_add_mod r f.binade
      rw [hq, Nat.mul_comm] at this
      omega
    have hs := Nat.mod_lt r hb
    generalize r % f.binade = s at *
    subst hr
    rw [V_at f q s (by omega), Nat.add_assoc, V_at f q (s + 1) (by omega)]
    exact Rat.mul_lt_mul_of_pos_right (by exact_mod_cast (show f.binade + s < f.binade + (s + 1) by omega)) (pw_pos _)
theorem V_lt {r s : Nat} (h : r < s) : V f r < V f s := by
  obtain ⟨d, rfl⟩ : ∃ d, s = r + 1 + d := ⟨s - r - 1, by omega⟩
  clear h
  induction d with
  | zero => exact V_step f r
  | succ d ih => have := V_step f (r + 1 + d); exact (by grind : V f r < V f (r + 1 + d + 1))
theorem V_le {r s : Nat} (h : r ≤ s) : V f r ≤ V f s := by
  rcases Nat.lt_or_eq_of_le h with h | h
  · exact Rat.le_of_lt (V_lt f h)
  · rw [h]; exact Rat.le_refl
theorem V_le_iff {r s : Nat} : V f r ≤ V f s ↔ r ≤ s := by
  constructor
  · intro h
    by_cases hc : r ≤ s
    · exact hc
    · have := V_lt f (show s < r by omega)
      grind
  · exact V_le f
theorem V_nonneg (r : Nat) : 0 ≤ V f r := by rw [← V_zero f]; exact V_le f (Nat.zero_le _)

/-- what is rounded, in units: 'kept' -/
theorem V_rung {m : Nat} (hm : m ≠ 0) (p : Int) : V f ((lastOf f m p - f.leastPlace).toNat * f.binade + keptOf f m p) = mv (keptOf f m p) (lastOf f m p) := by
  have hg := last_ge f m p
  have hk := kept_le f m p
  by_cases h : f.leastPlace < lastOf f m p
  · have hk' := kept_ge f hm h
    obtain ⟨s, hs⟩ : ∃ s, keptOf f m p = f.binade + s := ⟨keptOf f m p - f.binade, by omega⟩
    rw [hs]
    have : (lastOf f m p - f.leastPlace).toNat * f.binade + (f.binade + s) = ((lastOf f m p - f.leastPlace).toNat + 1) * f.binade + s := by rw [Nat.add_mul]; omega
    rw [this, V_at f _ s (by omega)]
    congr 1; omega
  · have e : lastOf f m p = f.leastPlace := by omega
    rw [e]
    simp only [Int.sub_self, Int.toNat_zero, Nat.zero_mul, Nat.zero_add]
    by_cases hk2 : keptOf f m p ≤ f.binade
    · exact V_low f _ hk2
    · obtain ⟨s, hs⟩ : ∃ s, keptOf f m p = f.binade + s := ⟨keptOf f m p - f.binade, by omega⟩
      rw [hs]
      have := V_at f 0 s (by omega)
      simp only [Nat.zero_add, Nat.one_mul] at this
      rw [this]
      congr 1; omega

/-- A NUMBER THAT THE FORMAT HAS IS ROUNDED TO ITSELF. -/
theorem rnd_exact {m : Nat} {p : Int} {r : Nat} (hr : r < f.infRung) (h : mv m p = V f r) : rnd f m p = r := by
  unfold rnd
  by_cases hm : m = 0
  · subst hm
    rw [mv_zero, ← V_zero f] at h
    have h1 : r ≤ 0 := (V_le_iff f).1 (by rw [← h]; exact Rat.le_refl)
    simp; omega
  simp only [hm, if_false]
  have hk := kept_spec f m p
  have hg := last_ge f m p
  have hv := V_rung f hm p
  have hb := binade_pos f
  -- the number is a whole number of units of the last place
  suffices hu : ∃ u : Nat, mv m p = mv u (lastOf f m p) by
    obtain ⟨u, hu⟩ := hu
    have hp := pw_pos (lastOf f m p)
    rw [hu] at hk
    unfold mv at hk
    have h1 : (2 * (u : Rat)) * pw (lastOf f m p) ≤ (2 * (keptOf f m p : Rat) + 1) * pw (lastOf f m p) := by grind
    have h2 : (2 * (keptOf f m p : Rat)) * pw (lastOf f m p) ≤ (2 * (u : Rat) + 1) * pw (lastOf f m p) := by grind
    have h1 := Rat.le_of_mul_le_mul_right h1 hp
    have h2 := Rat.le_of_mul_le_mul_right h2 hp
    have h1 : 2 * u ≤ 2 * keptOf f m p + 1 := by exact_mod_cast h1
    have h2 : 2 * keptOf f m p ≤ 2 * u + 1 := by exact_mod_cast h2
    have e : keptOf f m p = u := by omega
    rw [e, ← hu, h] at hv
    have a1 := (V_le_iff f).1 (show V f _ ≤ V f r by rw [hv]; exact Rat.le_refl)
    have a2 := (V_le_iff f).1 (show V f r ≤ V f _ by rw [hv]; exact Rat.le_refl)
    rw [e]; omega
  by_cases hlow : r ≤ f.binade
  · rw [V_low f r hlow] at h
    have hl : lastOf f m p = f.leastPlace := by
      by_cases hc : f.leastPlace < lastOf f m p
      · exfalso
        have h1 := mv_ge_last f hm hc
        rw [h] at h1
        have h3 : pw (f.leastPlace + 1) ≤ pw (lastOf f m p) := pw_le (by omega)
        rw [pw_succ] at h3
        unfold mv at h1
        have hp := pw_pos f.leastPlace
        have h4 : (0 : Rat) ≤ (f.binade : Rat) := by exact_mod_cast Nat.zero_le _
        have h5 := Rat.mul_le_mul_of_nonneg_left h3 h4
        have h6 : (2 * (f.binade : Rat)) * pw f.leastPlace ≤ (r : Rat) * pw f.leastPlace := by grind
        have h7 := Rat.le_of_mul_le_mul_right h6 hp
        have h8 : 2 * f.binade ≤ r := by exact_mod_cast h7
        omega
      · omega
    exact ⟨r, by rw [h, hl]⟩
  · have hd : r / f.binade ≠ 0 := by
      have := Nat.div_pos (show f.binade ≤ r by omega) hb
      omega
    obtain ⟨q, hq⟩ : ∃ q, r / f.binade = q + 1 := ⟨r / f.binade - 1, (Nat.sub_add_cancel (Nat.one_le_iff_ne_zero.2 hd)).symm⟩
    have hr' : r = (q + 1) * f.binade + r % f.binade := by
      have := Nat.div_add_mod r f.binade
      rw [hq, Nat.mul_comm] at this
      omega
    have hs := Nat.mod_lt r hb
    generalize r % f.binade = s at *
    subst hr'
    rw [V_at f q s (by omega)] at h
    -- the last place is not above that of the rung
    have hl : lastOf f m p ≤ f.leastPlace + q := by
      by_cases hc : f.leastPlace + q < lastOf f m p
      · exfalso
        have h1 := mv_ge_last f hm (show f.leastPlace < lastOf f m p by omega)
        rw [h] at h1
        have h3 : pw (f.leastPlace + q + 1) ≤ pw (lastOf f m p) := pw_le (by omega)
        rw [pw_succ] at h3
        unfold mv at h1
        have hp := pw_pos (f.leastPlace + q)
        have h4 : (0 : Rat) ≤ (f.binade : Rat) := by exact_mod_cast Nat.zero_le _
        have h5 := Rat.mul_le_mul_of_nonneg_left h3 h4
        have h6 : (2 * (f.binade : Rat)) * pw (f.leastPlace + q) ≤ ((f.binade + s : Nat) : Rat) * pw (f.leastPlace + q) := by grind
        have h7 := Rat.le_of_mul_le_mul_right h6 hp
        have h8 : 2 * f.binade ≤ f.binade + s := by exact_mod_cast h7
        omega
      · omega
    exact ⟨(f.binade + s) <<< (f.leastPlace + q - lastOf f m p).toNat, by rw [h]; exact mv_scale _ hl⟩
end

/-! ### words: sign and rung -/
section
variable (f : Format)

def rung (w : Nat) : Nat := w % f.signWeight
def neg (w : Nat) : Bool := w / f.signWeight % 2 == 1
def isN (w : Nat) : Bool := decide (f.infRung < rung f w)
def fin (w : Nat) : Bool := decide (rung f w < f.infRung)
def isI (w : Nat) : Bool := decide (rung f w = f.infRung)
/-- the place of a word that is no NaN, among all of them: 0 for both zeros -/
def key (w : Nat) : Int := if neg f w then -(rung f w : Int) else (rung f w : Int)

theorem signWeight_pos : 0 < f.signWeight := Nat.two_pow_pos _
theorem infRung_lt : f.infRung < f.signWeight := f.infRung_lt
theorem binade_le_inf (h : 1 ≤ f.exponentBits) : f.binade ≤ f.infRung := by
  unfold Format.infRung
  have : 2 ≤ 2 ^ f.exponentBits := Nat.pow_le_pow_right (n := 2) (by omega) h
  exact Nat.le_mul_of_pos_left _ (by omega)

theorem rung_lt (w : Nat) : rung f w < f.signWeight := Nat.mod_lt _ (signWeight_pos f)
theorem rung_word (s : Bool) {r : Nat} (h : r < f.signWeight) : rung f (f.word s r) = r := by
  unfold rung Format.word
  cases s <;> simp [Nat.mod_eq_of_lt h]
theorem neg_word (s : Bool) {r : Nat} (h : r < f.signWeight) : neg f (f.word s r) = s := by
  unfold neg Format.word
  have := signWeight_pos f
  cases s
  · simp [Nat.div_eq_of_lt h]
  · simp [Nat.add_div_left _ this, Nat.div_eq_of_lt h]
theorem word_of {w : Nat} (h : w < 2 ^ f.width) : f.word (neg f w) (rung f w) = w := by
  have two : 2 ^ f.width = 2 * f.signWeight := by
    unfold Format.width Format.signWeight
    rw [Nat.add_assoc, Nat.add_comm 1, Nat.pow_succ, Nat.mul_comm]
  rw [two] at h
  have hs := signWeight_pos f
  have h1 := Nat.div_add_mod w f.signWeight
  have h2 : w / f.signWeight < 2 := Nat.div_lt_of_lt_mul (by omega)
  unfold Format.word neg rung
  generalize w / f.signWeight = q at *
  generalize w % f.signWeight = r at *
  rcases (show q = 0 ∨ q = 1 by omega) with rfl | rfl
  · simp at *; omega
  · simp at *; omega

/-- WHAT A WORD READS AS. -/
theorem read_nan {w : Nat} (hb : f.binade ≤ f.infRung) (h : isN f w = true) : ∃ t, f.read w = .nan (neg f w) t := by
  have h : f.infRung < rung f w := by simpa [isN] using h
  unfold Format.read
  simp only []
  rw [if_neg (by unfold rung at h; omega), if_neg (by unfold rung at h; omega), if_neg (by unfold rung at h; omega)]
  exact ⟨_, rfl⟩
theorem read_inf {w : Nat} (hb : f.binade ≤ f.infRung) (h : isI f w = true) : f.read w = .infinity (neg f w) := by
  have h : rung f w = f.infRung := by simpa [isI] using h
  unfold Format.read
  simp only []
  rw [if_neg (by unfold rung at h; omega), if_neg (by unfold rung at h; omega), if_pos (by unfold rung at h; omega)]
  rfl
theorem read_fin {w : Nat} (h : fin f w = true) : ∃ m p, f.read w = .number (neg f w) m p ∧ mv m p = V f (rung f w) ∧ f.leastPlace ≤ p := by
  have h : rung f w < f.infRung := by simpa [fin] using h
  unfold Format.read V
  simp only []
  by_cases hb : rung f w < f.binade
  · rw [if_pos (by unfold rung at hb; exact hb), if_pos hb]
    exact ⟨_, _, rfl, rfl, Int.le_refl _⟩
  · rw [if_neg (by unfold rung at hb; exact hb), if_pos (by unfold rung at h; exact h), if_neg hb]
    exact ⟨_, _, rfl, rfl, by omega⟩

theorem kinds (w : Nat) : fin f w = true ∨ isI f w = true ∨ isN f w = true := by
  simp only [fin, isI, isN, decide_eq_true_eq]
  omega

/-! ### two magnitudes with signs, compared -/

def sv (s : Bool) (m : Nat) (p : Int) : Rat := if s then -mv m p else mv m p

theorem signed_val (s : Bool) (m up : Nat) (b : Int) : ((Ieee.signed s m up : Int) : Rat) * pw b = sv s m (b + up) := by
  have h : mv m (b + up) = ((m <<< up : Nat) : Rat) * pw b := by
    rw [mv_scale m (show b ≤ b + up by omega)]
    unfold mv
    congr 4; omega
  unfold Ieee.signed sv
  rw [h]
  cases s
  · simp; rfl
  · simp only [if_true]
    rw [Rat.intCast_neg, Rat.neg_mul]; rfl

/-- the value of a key -/
def kv (k : Int) : Rat := if k < 0 then -(V f k.natAbs) else V f k.natAbs

theorem kv_mono {a b : Int} (h : a < b) : kv f a < kv f b := by
  unfold kv
  split <;> split
  · have := V_lt f (show b.natAbs < a.natAbs by omega); grind
  · have h1 := V_lt f (show 0 < a.natAbs by omega)
    have h2 := V_nonneg f b.natAbs
    rw [V_zero] at h1
    grind
  · omega
  · exact V_lt f (by omega)
theorem kv_le {a b : Int} (h : a ≤ b) : kv f a ≤ kv f b := by
  rcases Int.lt_or_eq_of_le h with h | h
  · exact Rat.le_of_lt (kv_mono f h)
  · rw [h]; exact Rat.le_refl
theorem kv_lt_iff {a b : Int} : kv f a < kv f b ↔ a < b := by
  constructor
  · intro h
    by_cases hc : a < b
    · exact hc
    · have := kv_le f (show b ≤ a by omega); grind
  · exact kv_mono f
theorem kv_le_iff {a b : Int} : kv f a ≤ kv f b ↔ a ≤ b := by
  constructor
  · intro h
    by_cases hc : a ≤ b
    · exact hc
    · have := kv_mono f (show b < a by omega); grind
  · exact kv_le f
theorem kv_inj {a b : Int} (h : kv f a = kv f b) : a = b := by
  have h1 := (kv_le_iff f (a := a) (b := b)).1 (by rw [h]; exact Rat.le_refl)
  have h2 := (kv_le_iff f (a := b) (b := a)).1 (by rw [h]; exact Rat.le_refl)
  omega
theorem kv_neg (a : Int) : kv f (-a) = -kv f a := by
  unfold kv
  have e : (-a).natAbs = a.natAbs := by omega
  rw [e]
  by_cases h : a < 0
  · rw [if_neg (by omega), if_pos h]; grind
  · by_cases h0 : a = 0
    · subst h0; simp [V_zero]
    · rw [if_pos (by omega), if_neg h]
theorem kv_zero : kv f 0 = 0 := by simp [kv, V_zero]

theorem kv_key (w : Nat) : kv f (key f w) = if neg f w then -V f (rung f w) else V f (rung f w) := by
  unfold kv key
  cases neg f w
  · simp only [Bool.false_eq_true, if_false]
    rw [if_neg (by omega), Int.natAbs_natCast]
  · simp only [if_true]
    by_cases h : rung f w = 0
    · rw [h]; simp [V_zero]
    · rw [if_pos (by omega), Int.natAbs_neg, Int.natAbs_natCast]
theorem read_val {w : Nat} (h : fin f w = true) : ∃ m p, f.read w = .number (neg f w) m p ∧ sv (neg f w) m p = kv f (key f w) ∧ f.leastPlace ≤ p ∧ (m = 0 ↔ key f w = 0) := by
  obtain ⟨m, p, h1, h2, h3⟩ := read_fin f h
  have hz : m = 0 ↔ key f w = 0 := by
    constructor
    · intro hm
      subst hm
      rw [mv_zero, ← V_zero f] at h2
      have := (V_le_iff f).1 (show V f (rung f w) ≤ V f 0 by rw [h2]; exact Rat.le_refl)
      unfold key; split <;> omega
    · intro hk
      have : rung f w = 0 := by unfold key at hk; split at hk <;> omega
      rw [this, V_zero] at h2
      by_cases hm : m = 0
      · exact hm
      · have := mv_pos hm p; grind
  refine ⟨m, p, h1, ?_, h3, hz⟩
  rw [kv_key]
  unfold sv
  rw [h2]

theorem cmp_lt {a b : Int} (h : a < b) : compare a b = .lt := by simp [compare, compareOfLessAndEq, h]
theorem cmp_gt {a b : Int} (h : b < a) : compare a b = .gt := by
  simp only [compare, compareOfLessAndEq]
  rw [if_neg (by omega), if_neg (by omega)]
theorem cmp_val {a b c d : Int} {P Q : Rat} (u : Int) (ha : (a : Rat) * pw u = P) (hb : (b : Rat) * pw u = Q) (h : P < Q ↔ c < d) (h' : P = Q ↔ c = d) : compare a b = compare c d := by
  have hp := pw_pos u
  have e1 : a < b ↔ P < Q := by
    rw [← ha, ← hb, Rat.mul_lt_mul_right hp, Rat.intCast_lt_intCast]
  have e2 : a = b ↔ P = Q := by
    rw [← ha, ← hb]
    constructor
    · intro h; rw [h]
    · intro h
      have h1 := Rat.le_of_mul_le_mul_right (show (a : Rat) * pw u ≤ b * pw u by rw [h]; exact Rat.le_refl) hp
      have h2 := Rat.le_of_mul_le_mul_right (show (b : Rat) * pw u ≤ a * pw u by rw [h]; exact Rat.le_refl) hp
      have h1 := Rat.intCast_le_intCast.1 h1
      have h2 := Rat.intCast_le_intCast.1 h2
      omega
  show compareOfLessAndEq a b = compareOfLessAndEq c d
  unfold compareOfLessAndEq
  by_cases hl : c < d
  · rw [if_pos (e1.2 (h.2 hl)), if_pos hl]
  · rw [if_neg (fun x => hl (h.1 (e1.1 x))), if_neg hl]
    by_cases he : c = d
    · rw [if_pos (e2.2 (h'.2 he)), if_pos he]
    · rw [if_neg (fun x => he (h'.1 (e2.1 x))), if_neg he]

/-- WORDS ARE ORDERED AS THEIR KEYS. -/
theorem order_key {x y : Nat} (hb : f.binade ≤ f.infRung) (hx : isN f x = false) (hy : isN f y = false) : f.order x y = some (compare (key f x) (key f y)) := by
  have fx : fin f x = true ∨ isI f x = true := by
    rcases kinds f x with h | h | h
    · exact .inl h
    · exact .inr h
    · rw [h] at hx; cases hx
  have fy : fin f y = true ∨ isI f y = true := by
    rcases kinds f y with h | h | h
    · exact .inl h
    · exact .inr h
    · rw [h] at hy; cases hy
  have hp := binade_pos f
  unfold Format.order
  rcases fx with fx | fx <;> rcases fy with fy | fy
  · obtain ⟨m, i, e1, v1, g1, _⟩ := read_val f fx
    obtain ⟨n, j, e2, v2, g2, _⟩ := read_val f fy
    rw [e1, e2]
    simp only [Datum.order]
    refine congrArg some (cmp_val (min i j) (P := kv f (key f x)) (Q := kv f (key f y)) ?_ ?_ (kv_lt_iff f) ⟨kv_inj f, fun h => by rw [h]⟩)
    · rw [signed_val, ← v1]; congr 1; omega
    · rw [signed_val, ← v2]; congr 1; omega
  · obtain ⟨m, i, e1, v1, g1, _⟩ := read_val f fx
    rw [e1, read_inf f hb fy]
    simp only [Datum.order]
    have h1 : rung f x < f.infRung := by simpa [fin] using fx
    have h2 : rung f y = f.infRung := by simpa [isI] using fy
    refine congrArg some ?_
    unfold key
    cases neg f y
    · simp only [Bool.false_eq_true, if_false]
      refine (cmp_lt ?_).symm
      split <;> omega
    · simp only [if_true]
      refine (cmp_gt ?_).symm
      split <;> omega
  · obtain ⟨m, i, e1, v1, g1, _⟩ := read_val f fy
    rw [e1, read_inf f hb fx]
    simp only [Datum.order]
    have h1 : rung f y < f.infRung := by simpa [fin] using fy
    have h2 : rung f x = f.infRung := by simpa [isI] using fx
    refine congrArg some ?_
    unfold key
    cases neg f x
    · simp only [Bool.false_eq_true, if_false]
      refine (cmp_gt ?_).symm
      split <;> omega
    · simp only [if_true]
      refine (cmp_lt ?_).symm
      split <;> omega
  · rw [read_inf f hb fx, read_inf f hb fy]
    simp only [Datum.order]
    have h1 : rung f y = f.infRung := by simpa [isI] using fy
    have h2 : rung f x = f.infRung := by simpa [isI] using fx
    refine congrArg some ?_
    unfold key
    rw [h1, h2]
    have hpos : 0 < f.infRung := by omega
    cases neg f x <;> cases neg f y
    · simp [compare, compareOfLessAndEq]
    · simp only [if_true, Bool.false_eq_true, if_false]
      rw [cmp_gt (show -(f.infRung : Int) < f.infRung by omega)]; decide
    · simp only [if_true, Bool.false_eq_true, if_false]
      rw [cmp_lt (show -(f.infRung : Int) < f.infRung by omega)]; decide
    · simp [compare, compareOfLessAndEq]
theorem order_nan {x y : Nat} (hb : f.binade ≤ f.infRung) (h : isN f x = true ∨ isN f y = true) : f.order x y = none := by
  unfold Format.order
  rcases h with h | h
  · obtain ⟨t, e⟩ := read_nan f hb h
    rw [e]; rfl
  · obtain ⟨t, e⟩ := read_nan f hb h
    rw [e]
    cases f.read x <;> rfl
end

/-! ### what the operations give -/
section
variable (f : Format)

theorem sv_neg (s : Bool) (m : Nat) (p : Int) : sv (!s) m p = -sv s m p := by
  unfold sv; cases s <;> simp
theorem sv_nat (t : Int) (b : Int) (z : Bool) : sv (if t = 0 then z else decide (t < 0)) t.natAbs b = (t : Rat) * pw b := by
  unfold sv mv
  by_cases h0 : t = 0
  · subst h0; simp
  · by_cases h : t < 0
    · simp only [h0, h, if_false, decide_true, if_true]
      have e : (t : Rat) = -((t.natAbs : Nat) : Rat) := by
        have : t = -(t.natAbs : Int) := by omega
        rw [this, Rat.intCast_neg]; simp; rfl
      rw [e]; grind
    · simp only [h0, h, if_false, decide_false]
      have e : (t : Rat) = ((t.natAbs : Nat) : Rat) := by
        have : t = (t.natAbs : Int) := by omega
        rw [this]; simp; rfl
      rw [e]; rfl

theorem rnd_le (m : Nat) (p : Int) : rnd f m p ≤ f.infRung := by unfold rnd; split <;> omega
theorem rnd_lt (m : Nat) (p : Int) : rnd f m p < f.signWeight := Nat.lt_of_le_of_lt (rnd_le f m p) f.infRung_lt

/-- the key of a magnitude with a sign, rounded -/
def sk (s : Bool) (m : Nat) (p : Int) : Int := if s then -(rnd f m p : Int) else (rnd f m p : Int)
theorem sk_mono {s t : Bool} {m n : Nat} {p q : Int} (h : sv s m p ≤ sv t n q) : sk f s m p ≤ sk f t n q := by
  unfold sk
  have hm := mv_nonneg m p
  have hn := mv_nonneg n q
  cases s <;> cases t <;> simp only [sv, Bool.false_eq_true, if_false, if_true] at h ⊢
  · have := rnd_mono f h; omega
  · have h1 : mv m p ≤ mv 0 0 := by rw [mv_zero]; grind
    have h2 : mv n q ≤ mv 0 0 := by rw [mv_zero]; grind
    have r1 := rnd_mono f h1
    have r2 := rnd_mono f h2
    have : rnd f 0 0 = 0 := by simp [rnd]
    omega
  · omega
  · have := rnd_mono f (show mv n q ≤ mv m p by grind); omega
theorem sk_exact {s : Bool} {m : Nat} {p : Int} {a : Int} (ha : a.natAbs < f.infRung) (h : sv s m p = kv f a) : sk f s m p = a := by
  have hm := mv_nonneg m p
  have hv := V_nonneg f a.natAbs
  have key : mv m p = V f a.natAbs → rnd f m p = a.natAbs := fun e => rnd_exact f ha e
  have zero : V f a.natAbs = 0 → a = 0 := fun e => by
    have := (V_le_iff f (r := a.natAbs) (s := 0)).1 (by rw [V_zero, e]; exact Rat.le_refl)
    omega
  unfold sv kv at h
  unfold sk
  cases s <;> simp only [Bool.false_eq_true, if_false, if_true] at h ⊢
  · by_cases hn : a < 0
    · rw [if_pos hn] at h
      have := zero (by grind)
      omega
    · rw [if_neg hn] at h
      have := key h; omega
  · by_cases hn : a < 0
    · rw [if_pos hn] at h
      have := key (by grind); omega
    · rw [if_neg hn] at h
      have e := zero (by grind)
      subst e
      have := key (by simp at h ⊢; grind)
      omega
theorem sk_abs (s : Bool) (m : Nat) (p : Int) : (sk f s m p).natAbs ≤ f.infRung := by
  have := rnd_le f m p
  unfold sk; split <;> omega

/-- 'k' is the key of what 'q' is rounded to. -/
def RV (q : Rat) (k : Int) : Prop := ∃ s m p, sv s m p = q ∧ k = sk f s m p
theorem RV.mono {q q' : Rat} {k k' : Int} (h : RV f q k) (h' : RV f q' k') (hq : q ≤ q') : k ≤ k' := by
  obtain ⟨s, m, p, rfl, rfl⟩ := h
  obtain ⟨t, n, r, rfl, rfl⟩ := h'
  exact sk_mono f hq
theorem RV.same {q : Rat} {k k' : Int} (h : RV f q k) (h' : RV f q k') : k = k' := by
  have a := h.mono f h' Rat.le_refl
  have b := h'.mono f h Rat.le_refl
  omega
theorem RV.exact {q : Rat} {k a : Int} (h : RV f q k) (ha : a.natAbs < f.infRung) (e : q = kv f a) : k = a := by
  obtain ⟨s, m, p, rfl, rfl⟩ := h
  exact sk_exact f ha e
theorem RV.neg {q : Rat} {k : Int} (h : RV f q k) : RV f (-q) (-k) := by
  obtain ⟨s, m, p, rfl, rfl⟩ := h
  refine ⟨!s, m, p, sv_neg s m p, ?_⟩
  unfold sk; cases s <;> simp
theorem RV.abs {q : Rat} {k : Int} (h : RV f q k) : k.natAbs ≤ f.infRung := by
  obtain ⟨s, m, p, rfl, rfl⟩ := h
  exact sk_abs f s m p
theorem kv_self {a : Int} (ha : a.natAbs < f.infRung) : RV f (kv f a) a := by
  have hr : rung f (f.word (decide (a < 0)) a.natAbs) = a.natAbs := rung_word f _ (by have := f.infRung_lt; omega)
  have hs : neg f (f.word (decide (a < 0)) a.natAbs) = decide (a < 0) := neg_word f _ (by have := f.infRung_lt; omega)
  obtain ⟨m, p, _, v, _, _⟩ := read_val f (w := f.word (decide (a < 0)) a.natAbs) (by simp [fin, hr, ha])
  have hk : key f (f.word (decide (a < 0)) a.natAbs) = a := by
    unfold key; rw [hr, hs]; by_cases h : a < 0 <;> simp [h] <;> omega
  rw [hk] at v
  exact ⟨_, m, p, v, (sk_exact f ha v).symm⟩
/-- not above what the format has; not below it -/
theorem RV.le_of {q : Rat} {k a : Int} (h : RV f q k) (ha : a.natAbs < f.infRung) (e : q ≤ kv f a) : k ≤ a := h.mono f (kv_self f ha) e
theorem RV.ge_of {q : Rat} {k a : Int} (h : RV f q k) (ha : a.natAbs < f.infRung) (e : kv f a ≤ q) : a ≤ k := (kv_self f ha).mono f h e

theorem word_key (s : Bool) (m : Nat) (p : Int) : key f (f.word s (rnd f m p)) = sk f s m p := by
  unfold key sk
  rw [rung_word f s (rnd_lt f m p), neg_word f s (rnd_lt f m p)]
theorem word_num (s : Bool) (m : Nat) (p : Int) : isN f (f.word s (rnd f m p)) = false := by
  unfold isN
  rw [rung_word f s (rnd_lt f m p)]
  have := rnd_le f m p
  simp; omega
theorem word_width (s : Bool) (m : Nat) (p : Int) : f.word s (rnd f m p) < 2 ^ f.width := f.word_lt s (rnd_lt f m p)

theorem write_num (s : Bool) (m : Nat) (p : Int) : f.write (.number s m p) = f.word s (rnd f m p) := nearest_rnd f s m p

theorem sum_val (s t : Bool) (m n : Nat) (i j : Int) : ∃ u v b, Datum.sum (.number s m i) (.number t n j) = some (.number u v b) ∧ sv u v b = sv s m i + sv t n j := by
  refine ⟨_, _, _, rfl, ?_⟩
  rw [sv_nat, Rat.intCast_add, Rat.add_mul, signed_val, signed_val]
  congr 2 <;> omega

theorem add_spec {x y : Nat} (hx : fin f x = true) (hy : fin f y = true) : ∃ r, f.add x y = some r ∧ RV f (kv f (key f x) + kv f (key f y)) (key f r) ∧ isN f r = false ∧ r < 2 ^ f.width := by
  obtain ⟨m, i, e1, v1, _, _⟩ := read_val f hx
  obtain ⟨n, j, e2, v2, _, _⟩ := read_val f hy
  obtain ⟨u, v, b, e3, v3⟩ := sum_val (neg f x) (neg f y) m n i j
  refine ⟨f.word u (rnd f v b), ?_, ⟨u, v, b, ?_, word_key f u v b⟩, word_num f u v b, word_width f u v b⟩
  · unfold Format.add; rw [e1, e2, e3]; simp [write_num]
  · rw [v3, v1, v2]
theorem sub_spec {x y : Nat} (hx : fin f x = true) (hy : fin f y = true) : ∃ r, f.sub x y = some r ∧ RV f (kv f (key f x) - kv f (key f y)) (key f r) ∧ isN f r = false ∧ r < 2 ^ f.width := by
  obtain ⟨m, i, e1, v1, _, _⟩ := read_val f hx
  obtain ⟨n, j, e2, v2, _, _⟩ := read_val f hy
  obtain ⟨u, v, b, e3, v3⟩ := sum_val (neg f x) (!neg f y) m n i j
  refine ⟨f.word u (rnd f v b), ?_, ⟨u, v, b, ?_, word_key f u v b⟩, word_num f u v b, word_width f u v b⟩
  · unfold Format.sub; rw [e1, e2]; simp only [Datum.opposite]; rw [e3]; simp [write_num]
  · rw [v3, sv_neg, v1, v2]; grind
theorem sv_mul (s t : Bool) (m n : Nat) (i j : Int) : sv (s ^^ t) (m * n) (i + j) = sv s m i * sv t n j := by
  have : mv (m * n) (i + j) = mv m i * mv n j := by unfold mv; rw [Rat.natCast_mul, pw_add]; grind
  unfold sv; rw [this]; cases s <;> cases t <;> simp <;> grind
theorem mul_spec {x y : Nat} (hx : fin f x = true) (hy : fin f y = true) : ∃ r, f.mul x y = some r ∧ RV f (kv f (key f x) * kv f (key f y)) (key f r) ∧ isN f r = false ∧ r < 2 ^ f.width := by
  obtain ⟨m, i, e1, v1, _, _⟩ := read_val f hx
  obtain ⟨n, j, e2, v2, _, _⟩ := read_val f hy
  refine ⟨f.word (neg f x ^^ neg f y) (rnd f (m * n) (i + j)), ?_, ⟨_, _, _, ?_, word_key f _ _ _⟩, word_num f _ _ _, word_width f _ _ _⟩
  · unfold Format.mul; rw [e1, e2]; simp [Datum.product, write_num]
  · rw [sv_mul, v1, v2]
end

/-! ### quotients -/
section
variable (f : Format)

/-- 'k' is not parted from 'q' by any number of the format. -/
def RB (q : Rat) (k : Int) : Prop := ∀ g : Int, g.natAbs < f.infRung → (q ≤ kv f g → k ≤ g) ∧ (kv f g ≤ q → g ≤ k)
theorem RV.rb {q : Rat} {k : Int} (h : RV f q k) : RB f q k := fun _ hg => ⟨fun e => h.le_of f hg e, fun e => h.ge_of f hg e⟩
theorem RB.exact {q : Rat} {k a : Int} (h : RB f q k) (ha : a.natAbs < f.infRung) (e : q = kv f a) : k = a := by
  have h1 := (h a ha).1 (by rw [e]; exact Rat.le_refl)
  have h2 := (h a ha).2 (by rw [e]; exact Rat.le_refl)
  omega
theorem RB.neg {q : Rat} {k : Int} (h : RB f q k) : RB f (-q) (-k) := by
  intro g hg
  have := h (-g) (by omega)
  rw [kv_neg] at this
  exact ⟨fun e => by have := this.2 (by grind); omega, fun e => by have := this.1 (by grind); omega⟩

/-- every number of the format: a whole number of few digits, at its place -/
theorem V_form {r : Nat} : ∃ (c : Nat) (e : Int), V f r = mv c e ∧ c < 2 * f.binade := by
  have hb := binade_pos f
  unfold V
  split
  · exact ⟨_, _, rfl, by omega⟩
  · have := Nat.mod_lt r hb
    exact ⟨_, _, rfl, by omega⟩

theorem quo_big {m n : Nat} (hm : m ≠ 0) (hn : n ≠ 0) (d : Nat) : 2 ^ (d + 1) ≤ (m <<< (d + 2 + n.log2 - m.log2)) / n := by
  rw [Nat.le_div_iff_mul_le (Nat.pos_of_ne_zero hn)]
  have h1 : n < 2 ^ (n.log2 + 1) := Nat.lt_log2_self
  have h2 : 2 ^ (d + 2 + n.log2) ≤ m <<< (d + 2 + n.log2 - m.log2) := by
    rw [Nat.shiftLeft_eq]
    have h3 := Nat.log2_self_le hm
    have h4 : 2 ^ (d + 2 + n.log2) ≤ 2 ^ (m.log2 + (d + 2 + n.log2 - m.log2)) := Nat.pow_le_pow_right (by omega) (by omega)
    have h5 : 2 ^ (m.log2 + (d + 2 + n.log2 - m.log2)) = 2 ^ m.log2 * 2 ^ (d + 2 + n.log2 - m.log2) := Nat.pow_add ..
    rw [h5] at h4
    exact Nat.le_trans h4 (Nat.mul_le_mul_right _ h3)
  have h5 : 2 ^ (d + 2 + n.log2) = 2 ^ (d + 1) * 2 ^ (n.log2 + 1) := by rw [← Nat.pow_add]; congr 1; omega
  rw [h5] at h2
  exact Nat.le_trans (Nat.mul_le_mul_left _ (Nat.le_of_lt h1)) h2

/-- the quotient that is written, held against the numbers of the format -/
theorem quo_mag {m n : Nat} (hn : n ≠ 0) (i j : Int) (r : Nat) :
    let more := f.fractionBits + 2 + n.log2 - m.log2
    let Q := mv (2 * ((m <<< more) / n) + ((m <<< more) % n != 0).toNat) (i - j - more - 1)
    (mv m i ≤ V f r * mv n j → Q ≤ V f r) ∧ (V f r * mv n j ≤ mv m i → V f r ≤ Q) := by
  intro more Q
  have hnp : 0 < n := Nat.pos_of_ne_zero hn
  by_cases hm : m = 0
  · have hQ : Q = 0 := by
      show mv (2 * ((m <<< more) / n) + ((m <<< more) % n != 0).toNat) (i - j - more - 1) = 0
      subst hm
      simp [mv_zero]
    rw [hQ]
    subst hm
    rw [mv_zero]
    refine ⟨fun _ => V_nonneg f r, fun h => ?_⟩
    have := mv_pos hn j
    exact Rat.le_of_mul_le_mul_right (by rw [Rat.zero_mul]; exact h) this
  have hbig := quo_big hm hn f.fractionBits
  -- units
  have hD : mv m i = mv (m <<< more) (i - more) := by
    rw [mv_scale m (show i - more ≤ i by omega)]; congr 2; omega
  have hdm := Nat.div_add_mod (m <<< more) n
  have hlt := Nat.mod_lt (m <<< more) hnp
  have hbig : 2 ^ (f.fractionBits + 1) ≤ (m <<< more) / n := hbig
  have hst : ((m <<< more) % n != 0).toNat ≤ 1 ∧ (((m <<< more) % n != 0).toNat = 0 ↔ (m <<< more) % n = 0) := by
    by_cases h : (m <<< more) % n = 0
    · simp [h]
    · have : ((m <<< more) % n != 0) = true := by simpa using h
      rw [this]; simp [h]
  have hQ : Q = ((2 * ((m <<< more) / n) + ((m <<< more) % n != 0).toNat : Nat) : Rat) * pw (i - j - more - 1) := rfl
  rw [hD, hQ]
  generalize hDv : m <<< more = D at *
  generalize ((D % n) != 0).toNat = st at *
  generalize D / n = F at *
  generalize D % n = R at *
  have hu : pw (i - j - more) = pw (i - j - more - 1) * 2 := by rw [← pw_succ]; congr 1; omega
  have huj : pw (i - more) = pw (i - j - more) * pw j := by rw [← pw_add]; congr 1; omega
  have hu0 := pw_pos (i - j - more - 1)
  have hj0 := pw_pos j
  obtain ⟨c, e, hV, hc⟩ := V_form f (r := r)
  have hn0 : (0 : Rat) < (n : Rat) := by exact_mod_cast hnp
  by_cases he : i - j - more ≤ e
  · -- the number is a whole number of units
    obtain ⟨G, hG⟩ : ∃ G : Nat, V f r = (G : Rat) * pw (i - j - more) := ⟨c <<< (e - (i - j - more)).toNat, by rw [hV]; exact mv_scale c he⟩
    rw [hG]
    unfold mv
    rw [huj]
    generalize pw j = J at *
    rw [hu]
    generalize pw (i - j - more - 1) = U at *
    have hUJ : 0 < U * J := Rat.mul_pos hu0 hj0
    constructor
    · intro h
      have h1 : (D : Rat) * (2 * (U * J)) ≤ ((G : Rat) * (n : Rat)) * (2 * (U * J)) := by grind
      have h2 := Rat.le_of_mul_le_mul_right h1 (by grind)
      have h3 : D ≤ G * n := by exact_mod_cast h2
      have h4 : 2 * F + st ≤ 2 * G := by
        by_cases hR : R = 0
        · have := hst.2.2 hR
          have : n * F ≤ n * G := by rw [Nat.mul_comm n G]; omega
          have := Nat.le_of_mul_le_mul_left this hnp
          omega
        · have : n * F < n * G := by rw [Nat.mul_comm n G]; omega
          have := Nat.lt_of_mul_lt_mul_left this
          have := hst.1
          omega
      have h5 : ((2 * F + st : Nat) : Rat) ≤ ((2 * G : Nat) : Rat) := by exact_mod_cast h4
      have h6 := Rat.mul_le_mul_of_nonneg_right h5 (Rat.le_of_lt hu0)
      rw [Rat.natCast_mul 2 G] at h6
      have : ((2 : Nat) : Rat) = 2 := rfl
      rw [this] at h6
      grind
    · intro h
      have h1 : ((G : Rat) * (n : Rat)) * (2 * (U * J)) ≤ (D : Rat) * (2 * (U * J)) := by grind
      have h2 := Rat.le_of_mul_le_mul_right h1 (by grind)
      have h3 : G * n ≤ D := by exact_mod_cast h2
      have h4 : 2 * G ≤ 2 * F + st := by
        have : n * G < n * (F + 1) := by rw [Nat.mul_comm n G, Nat.mul_add]; omega
        have := Nat.lt_of_mul_lt_mul_left this
        omega
      have h5 : ((2 * G : Nat) : Rat) ≤ ((2 * F + st : Nat) : Rat) := by exact_mod_cast h4
      have h6 := Rat.mul_le_mul_of_nonneg_right h5 (Rat.le_of_lt hu0)
      rw [Rat.natCast_mul 2 G] at h6
      have : ((2 : Nat) : Rat) = 2 := rfl
      rw [this] at h6
      grind
  · -- it is smaller than the quotient
    have hsmall : V f r < (F : Rat) * pw (i - j - more) := by
      rw [hV]
      unfold mv
      have h1 : pw e ≤ pw (i - j - more - 1) := pw_le (by omega)
      have h2 : (c : Rat) < (2 * f.binade : Nat) := by exact_mod_cast hc
      have h3 : ((2 * f.binade : Nat) : Rat) ≤ (F : Rat) := by
        have : 2 * f.binade = 2 ^ (f.fractionBits + 1) := by unfold Format.binade; rw [Nat.pow_succ, Nat.mul_comm]
        rw [this]; exact_mod_cast hbig
      have hc0 : (0 : Rat) ≤ (c : Rat) := by exact_mod_cast Nat.zero_le c
      have h4 := Rat.mul_le_mul_of_nonneg_left h1 hc0
      have h5 : (c : Rat) * pw (i - j - more - 1) < (F : Rat) * pw (i - j - more - 1) := Rat.mul_lt_mul_of_pos_right (by grind) hu0
      rw [hu]
      have hF : (0 : Rat) ≤ (F : Rat) := by exact_mod_cast Nat.zero_le F
      have := Rat.mul_nonneg hF (Rat.le_of_lt hu0)
      grind
    have hQF : (F : Rat) * pw (i - j - more) ≤ ((2 * F + st : Nat) : Rat) * pw (i - j - more - 1) := by
      have h5 : ((2 * F : Nat) : Rat) ≤ ((2 * F + st : Nat) : Rat) := by exact_mod_cast (by omega)
      have h6 := Rat.mul_le_mul_of_nonneg_right h5 (Rat.le_of_lt hu0)
      rw [Rat.natCast_mul 2 F] at h6
      have : ((2 : Nat) : Rat) = 2 := rfl
      rw [this] at h6
      rw [hu]
      grind
    refine ⟨fun h => ?_, fun _ => by grind⟩
    exfalso
    have h1 : (n : Rat) * (F : Rat) ≤ (D : Rat) := by
      have : n * F ≤ D := by omega
      exact_mod_cast this
    unfold mv at h
    rw [huj] at h
    have hUJ : 0 < pw (i - j - more) * pw j := Rat.mul_pos (pw_pos _) hj0
    have h2 := Rat.mul_le_mul_of_nonneg_right h1 (Rat.le_of_lt hUJ)
    have h3 : V f r * ((n : Rat) * pw j) < ((F : Rat) * pw (i - j - more)) * ((n : Rat) * pw j) := Rat.mul_lt_mul_of_pos_right hsmall (Rat.mul_pos hn0 hj0)
    grind
end

section
variable (f : Format)
theorem RB_mag {m n : Nat} (hn : n ≠ 0) (i j : Int) :
    RB f (mv m i / mv n j) (rnd f (2 * ((m <<< (f.fractionBits + 2 + n.log2 - m.log2)) / n) + ((m <<< (f.fractionBits + 2 + n.log2 - m.log2)) % n != 0).toNat) (i - j - (f.fractionBits + 2 + n.log2 - m.log2 : Nat) - 1) : Int) := by
  intro g hg
  have hq := quo_mag f (m := m) hn i j g.natAbs
  simp only [] at hq
  have hj := mv_pos hn j
  have hqn : 0 ≤ mv m i / mv n j := by
    rw [Rat.div_def]
    exact Rat.mul_nonneg (mv_nonneg m i) (Rat.le_of_lt (Rat.inv_pos.2 hj))
  have hmul : mv m i / mv n j * mv n j = mv m i := Rat.div_mul_cancel (by grind)
  generalize mv m i / mv n j = q at *
  generalize (2 * ((m <<< (f.fractionBits + 2 + n.log2 - m.log2)) / n) + ((m <<< (f.fractionBits + 2 + n.log2 - m.log2)) % n != 0).toNat) = v at *
  generalize (i - j - (f.fractionBits + 2 + n.log2 - m.log2 : Nat) - 1) = b at *
  by_cases hgn : g < 0
  · refine ⟨fun h => ?_, fun _ => by omega⟩
    exfalso
    have := kv_mono f hgn
    rw [kv_zero] at this
    grind
  · have hkv : kv f g = V f g.natAbs := by unfold kv; rw [if_neg hgn]
    rw [hkv]
    have hx : RV f (mv v b) (rnd f v b : Int) := ⟨false, v, b, by simp [sv], by simp [sk]⟩
    have hgg : ((g.natAbs : Int)) = g := by omega
    have hkv' : V f g.natAbs = kv f g := hkv.symm
    constructor
    · intro h
      have := Rat.mul_le_mul_of_nonneg_right h (Rat.le_of_lt hj)
      rw [hmul] at this
      exact hx.le_of f hg (by rw [← hkv']; exact hq.1 this)
    · intro h
      have := Rat.mul_le_mul_of_nonneg_right h (Rat.le_of_lt hj)
      rw [hmul] at this
      exact hx.ge_of f hg (by rw [← hkv']; exact hq.2 this)

theorem sv_div (s t : Bool) (m n : Nat) (i j : Int) : sv s m i / sv t n j = if (s ^^ t) then -(mv m i / mv n j) else mv m i / mv n j := by
  have hi : ∀ q : Rat, (-q)⁻¹ = -q⁻¹ := fun q => by grind
  unfold sv; cases s <;> cases t <;> simp [Rat.div_def, hi, Rat.neg_mul, Rat.mul_neg]

theorem div_spec {x y : Nat} (hx : fin f x = true) (hy : fin f y = true) (h0 : key f y ≠ 0) : ∃ r, f.div x y = some r ∧ RB f (kv f (key f x) / kv f (key f y)) (key f r) ∧ isN f r = false ∧ r < 2 ^ f.width := by
  obtain ⟨m, i, e1, v1, _, _⟩ := read_val f hx
  obtain ⟨n, j, e2, v2, _, z2⟩ := read_val f hy
  have hn : n ≠ 0 := fun h => h0 (z2.1 h)
  refine ⟨f.word (neg f x ^^ neg f y) (rnd f (2 * ((m <<< (f.fractionBits + 2 + n.log2 - m.log2)) / n) + ((m <<< (f.fractionBits + 2 + n.log2 - m.log2)) % n != 0).toNat) (i - j - (f.fractionBits + 2 + n.log2 - m.log2 : Nat) - 1)), ?_, ?_, word_num f _ _ _, word_width f _ _ _⟩
  · unfold Format.div; rw [e1, e2]; simp only [Datum.quotient, hn, if_false, Option.map_some, write_num]
  · rw [word_key, ← v1, ← v2, sv_div]
    have h := RB_mag f (m := m) hn i j
    unfold sk
    cases (neg f x ^^ neg f y)
    · simpa using h
    · simpa using h.neg f
end

/-! ### the two kinds -/
section
variable (k : FloatKind)
theorem hb : k.format.binade ≤ k.format.infRung := by
  cases k
  · exact binade_le_inf _ (by decide)
  · exact binade_le_inf _ (by decide)

def nan (w : Nat) : Bool := isN k.format w
def Wf (w : Nat) : Prop := w < 2 ^ k.format.width
/-- the same but for which NaN it is -/
def Eqv (a b : Nat) : Prop := a = b ∨ (nan k a = true ∧ nan k b = true)
theorem Eqv.refl (a : Nat) : Eqv k a a := .inl rfl
theorem Eqv.symm {a b : Nat} (h : Eqv k a b) : Eqv k b a := h.elim (fun e => .inl e.symm) (fun e => .inr ⟨e.2, e.1⟩)
theorem Eqv.trans {a b c : Nat} (h : Eqv k a b) (h' : Eqv k b c) : Eqv k a c := by
  rcases h with rfl | ⟨h1, h2⟩
  · exact h'
  · rcases h' with rfl | ⟨h3, h4⟩
    · exact .inr ⟨h1, h2⟩
    · exact .inr ⟨h1, h4⟩
theorem Eqv.nan {a b : Nat} (h : Eqv k a b) : nan k a = nan k b := by
  rcases h with rfl | ⟨h1, h2⟩
  · rfl
  · rw [h1, h2]
theorem Eqv.eq {a b : Nat} (h : Eqv k a b) (hn : Fl.nan k a = false) : a = b := by
  rcases h with rfl | ⟨h1, _⟩
  · rfl
  · rw [h1] at hn; cases hn

def nanC : FloatKind → Nat
  | .f32 => 0x7fc00000
  | .f64 => 0x7ff8000000000000
theorem nan_nanC : nan k (nanC k) = true := by cases k <;> decide +kernel
theorem wf_nanC : Wf k (nanC k) := by cases k <;> (unfold Wf; decide +kernel)

theorem read_isnan {w : Nat} (h : nan k w = true) : (k.format.read w).isNaN = true := by
  obtain ⟨t, e⟩ := read_nan k.format (hb k) h
  rw [e]; rfl
theorem read_notnan {w : Nat} (h : nan k w = false) : (k.format.read w).isNaN = false := by
  rcases kinds k.format w with e | e | e
  · obtain ⟨m, p, e, _⟩ := read_fin k.format e
    rw [e]; rfl
  · rw [read_inf k.format (hb k) e]; rfl
  · unfold nan at h; rw [e] at h; cases h

theorem sum_nan {a b : Datum} (h : a.isNaN = true ∨ b.isNaN = true) : Datum.sum a b = none := by
  rcases h with h | h
  · cases a <;> first | rfl | cases h
  · cases b <;> first | (cases a <;> rfl) | cases h
theorem product_nan {a b : Datum} (h : a.isNaN = true ∨ b.isNaN = true) : Datum.product a b = none := by
  rcases h with h | h
  · cases a <;> first | rfl | cases h
  · cases b <;> first | (cases a <;> rfl) | cases h
theorem quotient_nan {d : Nat} {a b : Datum} (h : a.isNaN = true ∨ b.isNaN = true) : Datum.quotient d a b = none := by
  rcases h with h | h
  · cases a <;> first | rfl | cases h
  · cases b <;> first | (cases a <;> rfl) | cases h
theorem opp_nan {a : Datum} : a.opposite.isNaN = a.isNaN := by cases a <;> rfl

theorem floatBits_nan {op : BinOp} {x y : Nat} (h : nan k x = true ∨ nan k y = true) : floatBits op k x y = none := by
  have h' : (k.format.read x).isNaN = true ∨ (k.format.read y).isNaN = true := h.elim (fun e => .inl (read_isnan k e)) (fun e => .inr (read_isnan k e))
  unfold floatBits
  cases op <;> simp only [Format.add, Format.sub, Format.mul, Format.div]
  · rw [sum_nan h']; rfl
  · rw [sum_nan (by rw [opp_nan]; exact h')]; rfl
  · rw [product_nan h']; rfl
  · rw [quotient_nan h']; rfl

/-- what an operation hands back: its bits, or some NaN -/
def Res (o : Option Nat) (r : Nat) : Prop := Wf k r ∧ match o with
  | some v => r = v
  | none => nan k r = true
def arith (op : BinOp) (x y : Nat) : Nat := (floatBits op k x y).getD (nanC k)
theorem Res.eqv {o : Option Nat} {r : Nat} (h : Res k o r) : Eqv k r (o.getD (nanC k)) := by
  obtain ⟨_, h⟩ := h
  cases o with
  | none => exact .inr ⟨h, nan_nanC k⟩
  | some v => exact .inl h
theorem floatBits_eqv {op : BinOp} {x x' y y' : Nat} (hx : Eqv k x x') (hy : Eqv k y y') : floatBits op k x y = floatBits op k x' y' := by
  rcases hx with rfl | ⟨h1, h2⟩
  · rcases hy with rfl | ⟨h3, h4⟩
    · rfl
    · rw [floatBits_nan k (.inr h3), floatBits_nan k (.inr h4)]
  · rw [floatBits_nan k (.inl h1), floatBits_nan k (.inl h2)]
theorem Res.arith {op : BinOp} {x x' y y' r : Nat} (h : Res k (floatBits op k x y) r) (hx : Eqv k x x') (hy : Eqv k y y') : Eqv k r (arith k op x' y') := by
  have := h.eqv
  rw [floatBits_eqv k hx hy] at this
  exact this
theorem arith_eqv {op : BinOp} {x x' y y' : Nat} (hx : Eqv k x x') (hy : Eqv k y y') : arith k op x y = arith k op x' y' := by
  unfold arith; rw [floatBits_eqv k hx hy]

/-! the comparisons -/
def lt (x y : Nat) : Bool := k.format.order x y == some .lt
def gt (x y : Nat) : Bool := k.format.order x y == some .gt
def eq (x y : Nat) : Bool := k.format.order x y == some .eq
def le (x y : Nat) : Bool := k.format.order x y == some .lt || k.format.order x y == some .eq
def ge (x y : Nat) : Bool := k.format.order x y == some .gt || k.format.order x y == some .eq
def ky (x : Nat) : Int := key k.format x
theorem order_ky {x y : Nat} (hx : nan k x = false) (hy : nan k y = false) : k.format.order x y = some (compare (ky k x) (ky k y)) := order_key k.format (hb k) hx hy
theorem order_none {x y : Nat} (h : nan k x = true ∨ nan k y = true) : k.format.order x y = none := order_nan k.format (hb k) h
theorem order_self (x : Nat) : k.format.order x x = if nan k x then none else some .eq := by
  cases h : nan k x
  · rw [order_ky k h h]; simp [compare, compareOfLessAndEq]
  · rw [order_none k (.inl h)]; rfl
theorem order_eqv {x x' y y' : Nat} (hx : Eqv k x x') (hy : Eqv k y y') : k.format.order x y = k.format.order x' y' := by
  rcases hx with rfl | ⟨h1, h2⟩
  · rcases hy with rfl | ⟨h3, h4⟩
    · rfl
    · rw [order_none k (.inr h3), order_none k (.inr h4)]
  · rw [order_none k (.inl h1), order_none k (.inl h2)]
theorem lt_ky {x y : Nat} : lt k x y = (!nan k x && !nan k y && decide (ky k x < ky k y)) := by
  unfold lt
  cases hx : nan k x
  · cases hy : nan k y
    · rw [order_ky k hx hy]
      simp only [compare, compareOfLessAndEq]
      split
      · simp [*]
      · split <;> simp [*]
    · rw [order_none k (.inr hy)]; simp
  · rw [order_none k (.inl hx)]; simp
theorem gt_ky {x y : Nat} : gt k x y = (!nan k x && !nan k y && decide (ky k y < ky k x)) := by
  unfold gt
  cases hx : nan k x
  · cases hy : nan k y
    · rw [order_ky k hx hy]
      simp only [compare, compareOfLessAndEq]
      split
      · have : ¬ ky k y < ky k x := by omega
        simp [this]
      · split
        · have : ¬ ky k y < ky k x := by omega
          simp [this]
        · have : ky k y < ky k x := by omega
          simp [this]
    · rw [order_none k (.inr hy)]; simp
  · rw [order_none k (.inl hx)]; simp
theorem eq_ky {x y : Nat} : eq k x y = (!nan k x && !nan k y && decide (ky k x = ky k y)) := by
  unfold eq
  cases hx : nan k x
  · cases hy : nan k y
    · rw [order_ky k hx hy]
      simp only [compare, compareOfLessAndEq]
      split
      · have : ¬ ky k x = ky k y := by omega
        simp [this]
      · split
        · simp [*]
        · simp [*]
    · rw [order_none k (.inr hy)]; simp
  · rw [order_none k (.inl hx)]; simp
theorem le_ky {x y : Nat} : le k x y = (!nan k x && !nan k y && decide (ky k x ≤ ky k y)) := by
  have h : le k x y = (lt k x y || eq k x y) := rfl
  rw [h, lt_ky, eq_ky]
  cases nan k x <;> cases nan k y <;> simp
  rw [Bool.eq_iff_iff]; simp; omega
theorem ge_ky {x y : Nat} : ge k x y = (!nan k x && !nan k y && decide (ky k y ≤ ky k x)) := by
  have h : ge k x y = (gt k x y || eq k x y) := rfl
  rw [h, gt_ky, eq_ky]
  cases nan k x <;> cases nan k y <;> simp
  rw [Bool.eq_iff_iff]; simp; omega
end

/-! ### numbers that the format has -/
section
variable (f : Format)
theorem repr_nat (d : Nat) : ∀ m : Nat, m < 2 * f.binade → ∃ r, V f r = mv m (f.leastPlace + d) ∧ r < (d + 2) * f.binade := by
  induction d with
  | zero =>
    intro m hm
    by_cases h : m ≤ f.binade
    · refine ⟨m, ?_, ?_⟩
      · rw [V_low f m h]; congr 1; omega
      · have := binade_pos f; omega
    · refine ⟨f.binade + (m - f.binade), ?_, ?_⟩
      · have := V_at f 0 (m - f.binade) (by omega)
        simp only [Nat.zero_add, Nat.one_mul] at this
        rw [this]
        congr 1; omega
      · omega
  | succ d ih =>
    intro m hm
    by_cases h : m < f.binade
    · obtain ⟨r, h1, h2⟩ := ih (2 * m) (by omega)
      refine ⟨r, ?_, Nat.lt_of_lt_of_le h2 (Nat.mul_le_mul_right _ (by omega))⟩
      rw [h1]
      unfold mv
      have : f.leastPlace + ((d + 1 : Nat) : Int) = (f.leastPlace + d) + 1 := by omega
      rw [this, pw_succ, Rat.natCast_mul]
      have : ((2 : Nat) : Rat) = 2 := rfl
      rw [this]; grind
    · refine ⟨(d + 1 + 1) * f.binade + (m - f.binade), ?_, ?_⟩
      · rw [V_at f (d + 1) (m - f.binade) (by omega)]
        congr 1; omega
      · have : (d + 1 + 2) * f.binade = (d + 1 + 1) * f.binade + f.binade := by rw [← Nat.succ_mul]
        omega
theorem repr {m : Nat} {p : Int} (hm : m < 2 * f.binade) (hp : f.leastPlace ≤ p) : ∃ r, V f r = mv m p ∧ r < ((p - f.leastPlace).toNat + 2) * f.binade := by
  obtain ⟨r, h1, h2⟩ := repr_nat f (p - f.leastPlace).toNat m hm
  refine ⟨r, ?_, h2⟩
  rw [h1]; congr 1; omega
theorem read_bounds {w : Nat} (h : fin f w = true) : ∃ m p, f.read w = .number (neg f w) m p ∧ sv (neg f w) m p = kv f (key f w) ∧ f.leastPlace ≤ p ∧ (m = 0 ↔ key f w = 0) ∧ m < 2 * f.binade ∧ (p - f.leastPlace).toNat + 3 ≤ 2 ^ f.exponentBits + (if rung f w < 2 * f.binade then 2 else 0) := by
  obtain ⟨m, p, h1, h2, h3, h4⟩ := read_val f h
  have hb := binade_pos f
  have hf : rung f w < f.infRung := by simpa [fin] using h
  refine ⟨m, p, h1, h2, h3, h4, ?_⟩
  unfold Format.read at h1
  simp only [] at h1
  have e2 : 0 < 2 ^ f.exponentBits := Nat.two_pow_pos _
  by_cases hc : rung f w < f.binade
  · rw [if_pos (by unfold rung at hc; exact hc)] at h1
    injection h1 with _ hm hp
    subst hm hp
    refine ⟨by unfold rung at hc; omega, ?_⟩
    rw [if_pos (by omega)]
    omega
  · rw [if_neg (by unfold rung at hc; exact hc), if_pos (by unfold rung at hf; exact hf)] at h1
    injection h1 with _ hm hp
    have h5 := Nat.mod_lt (w % f.signWeight) hb
    refine ⟨by omega, ?_⟩
    have h6 : w % f.signWeight / f.binade < 2 ^ f.exponentBits - 1 := by
      rw [Nat.div_lt_iff_lt_mul hb]; unfold rung at hf; exact hf
    split
    · omega
    · rename_i h7
      have h8 : 2 ≤ w % f.signWeight / f.binade := by
        rw [Nat.le_div_iff_mul_le hb]; unfold rung at h7; omega
      omega
theorem kv_of_word {s : Bool} {r : Nat} (hr : r < f.infRung) : kv f (key f (f.word s r)) = if s then -V f r else V f r := by
  rw [kv_key, rung_word f s (by have := f.infRung_lt; omega), neg_word f s (by have := f.infRung_lt; omega)]
theorem fin_word {s : Bool} {r : Nat} (hr : r < f.infRung) : fin f (f.word s r) = true := by
  unfold fin; rw [rung_word f s (by have := f.infRung_lt; omega)]; simpa using hr
/-- a number that the format has, written: to the sign -/
theorem write_repr {s : Bool} {m : Nat} {p : Int} {r : Nat} (hr : r < f.infRung) (h : V f r = mv m p) : f.write (.number s m p) = f.word s r := by
  rw [write_num, rnd_exact f hr h.symm]
end

section
/-- A SINGLE WIDENED: the same number. -/
theorem widen_fin {x : Nat} (hx : fin single x = true) : ∃ r, floatToFloatBits .f32 x .f64 = some r ∧ fin double r = true ∧ kv double (key double r) = kv single (key single x) ∧ neg double r = neg single x ∧ r < 2 ^ 64 := by
  obtain ⟨m, p, h1, h2, h3, _, h5, h6⟩ := read_bounds single hx
  have b1 : single.binade = 2 ^ 23 := by decide +kernel
  have b2 : double.binade = 2 ^ 52 := by decide +kernel
  have l1 : single.leastPlace = -149 := by decide +kernel
  have l2 : double.leastPlace = -1074 := by decide +kernel
  have i2 : double.infRung = 2047 * 2 ^ 52 := by decide +kernel
  have e1 : single.exponentBits = 8 := rfl
  rw [b1] at h5
  rw [l1] at h3 h6
  rw [e1] at h6
  have h6' : (p - -149).toNat ≤ 256 := by split at h6 <;> omega
  obtain ⟨r, hr1, hr2⟩ := repr double (m := m) (p := p) (by rw [b2]; omega) (by rw [l2]; omega)
  have hr3 : r < double.infRung := by
    rw [i2]
    have : ((p - double.leastPlace).toNat + 2) * double.binade ≤ 2047 * 2 ^ 52 := by rw [b2, l2]; exact Nat.mul_le_mul_right _ (by omega)
    omega
  have hw : double.write (.number (neg single x) m p) = double.word (neg single x) r := write_repr double hr3 hr1
  refine ⟨double.word (neg single x) r, ?_, fin_word double hr3, ?_, ?_, ?_⟩
  · unfold floatToFloatBits
    rw [if_neg (by decide)]
    have hd : FloatKind.f32.decode x = .number (neg single x) m p := h1
    rw [hd]
    simp only []
    have he : FloatKind.f64.encode (.number (neg single x) m p) = double.word (neg single x) r := hw
    rw [he]
    have hn : (FloatKind.f64.decode (double.word (neg single x) r)).isInfinity = false := by
      obtain ⟨m', p', e', _⟩ := read_fin double (fin_word double (s := neg single x) hr3)
      show (double.read _).isInfinity = false
      rw [e']; rfl
    rw [hn]; rfl
  · rw [kv_of_word double hr3, hr1, ← h2]; unfold sv; rfl
  · exact neg_word double _ (by have := double.infRung_lt; omega)
  · exact double.word_lt _ (by have := double.infRung_lt; omega)
theorem widen_inf {x : Nat} (hx : isI single x = true) : floatToFloatBits .f32 x .f64 = some (double.word (neg single x) double.infRung) := by
  unfold floatToFloatBits
  rw [if_neg (by decide)]
  have hd : FloatKind.f32.decode x = .infinity (neg single x) := read_inf single (hb .f32) hx
  rw [hd]; rfl
theorem widen_nan {x : Nat} (hx : nan .f32 x = true) : floatToFloatBits .f32 x .f64 = none := by
  unfold floatToFloatBits
  rw [if_neg (by decide)]
  obtain ⟨t, e⟩ := read_nan single (hb .f32) hx
  have hd : FloatKind.f32.decode x = .nan (neg single x) t := e
  rw [hd]
/-- what a single is, widened (some NaN: one NaN) -/
def wid (x : Nat) : Nat := (floatToFloatBits .f32 x .f64).getD (nanC .f64)
theorem Res.wid {x x' r : Nat} (h : Res .f64 (floatToFloatBits .f32 x .f64) r) (hx : Eqv .f32 x x') : Eqv .f64 r (wid x') := by
  have := h.eqv
  rcases hx with rfl | ⟨h1, h2⟩
  · exact this
  · rw [widen_nan h1] at this
    unfold Fl.wid
    rw [widen_nan h2]
    exact this
theorem wid_eqv {x x' : Nat} (hx : Eqv .f32 x x') : wid x = wid x' := by
  unfold wid
  rcases hx with rfl | ⟨h1, h2⟩
  · rfl
  · rw [widen_nan h1, widen_nan h2]
theorem inf64 (s : Bool) : isI double (double.word s double.infRung) = true := by
  unfold isI; rw [rung_word double s double.infRung_lt]; simp
theorem fin_nan (k : FloatKind) {w : Nat} (h : fin k.format w = true) : nan k w = false := by
  simp only [fin, nan, isN, decide_eq_true_eq, decide_eq_false_iff_not] at *; omega
theorem inf_nan (k : FloatKind) {w : Nat} (h : isI k.format w = true) : nan k w = false := by
  simp only [isI, nan, isN, decide_eq_true_eq, decide_eq_false_iff_not] at *; omega
theorem inf_fin (k : FloatKind) {w : Nat} (h : isI k.format w = true) : fin k.format w = false := by
  simp only [isI, fin, decide_eq_true_eq, decide_eq_false_iff_not] at *; omega
theorem nan_fin (k : FloatKind) {w : Nat} (h : nan k w = true) : fin k.format w = false := by
  simp only [nan, isN, fin, decide_eq_true_eq, decide_eq_false_iff_not] at *; omega
theorem wid_nan (x : Nat) : nan .f64 (wid x) = nan .f32 x := by
  unfold wid
  rcases kinds single x with h | h | h
  · obtain ⟨r, e, hr, _⟩ := widen_fin h
    rw [e, fin_nan .f32 h]; exact fin_nan .f64 hr
  · rw [widen_inf h, inf_nan .f32 h]; exact inf_nan .f64 (inf64 _)
  · have h' : nan .f32 x = true := h
    rw [widen_nan h', h']; exact nan_nanC .f64
theorem wid_fin (x : Nat) : fin double (wid x) = fin single x := by
  unfold wid
  rcases kinds single x with h | h | h
  · obtain ⟨r, e, hr, _⟩ := widen_fin h
    rw [e, h]; exact hr
  · rw [widen_inf h]
    have h1 := inf_fin .f32 h
    have h2 : fin double (double.word (neg single x) double.infRung) = false := inf_fin .f64 (inf64 _)
    rw [show fin single x = false from h1]; exact h2
  · have h' : nan .f32 x = true := h
    rw [widen_nan h']
    rw [show fin single x = false from nan_fin .f32 h']
    exact nan_fin .f64 (nan_nanC .f64)
theorem wid_wf (x : Nat) : wid x < 2 ^ 64 := by
  unfold wid
  rcases kinds single x with h | h | h
  · obtain ⟨r, e, hr, _, _, h2⟩ := widen_fin h
    rw [e]; exact h2
  · rw [widen_inf h]; exact double.word_lt _ double.infRung_lt
  · have h' : nan .f32 x = true := h
    rw [widen_nan h']; decide +kernel
theorem wid_kv {x : Nat} (h : fin single x = true) : kv double (key double (wid x)) = kv single (key single x) := by
  unfold wid
  obtain ⟨r, e, hr, h1, _⟩ := widen_fin h
  rw [e]; exact h1
theorem wid_neg {x : Nat} (h : fin single x = true) : neg double (wid x) = neg single x := by
  unfold wid
  obtain ⟨r, e, hr, h1, h2, _⟩ := widen_fin h
  rw [e]; exact h2
theorem Eqv.fin {k : FloatKind} {a b : Nat} (h : Eqv k a b) : Fl.fin k.format a = Fl.fin k.format b := by
  rcases h with rfl | ⟨h1, h2⟩
  · rfl
  · rw [nan_fin k h1, nan_fin k h2]
theorem Res.fin32 {x r : Nat} (h : Res .f64 (floatToFloatBits .f32 x .f64) r) : Fl.fin double r = Fl.fin single x := by
  have h1 : Fl.fin double r = Fl.fin double (Fl.wid x) := (Res.wid h (Eqv.refl .f32 x)).fin
  rw [h1, wid_fin]
/-- x - x == 0 -/
theorem fine_sub {x r : Nat} (h : Res .f64 (floatBits .sub .f64 x x) r) : Fl.eq .f64 r 0 = Fl.fin double x := by
  obtain ⟨_, h⟩ := h
  rcases kinds double x with hx | hx | hx
  · obtain ⟨v, e1, e2, e3, _⟩ := sub_spec double hx hx
    have e4 : floatBits .sub .f64 x x = some v := e1
    rw [e4] at h
    subst h
    have hz : nan .f64 0 = false := by decide +kernel
    have hk : ky .f64 0 = 0 := by decide +kernel
    have hr : key double r = 0 := e2.exact double (by decide +kernel) (by rw [kv_zero]; grind)
    have hn : nan .f64 r = false := e3
    have hkr : ky .f64 r = 0 := hr
    rw [eq_ky, hz, hk, hn, hkr, hx]; rfl
  · have e4 : floatBits .sub .f64 x x = none := by
      have e5 : double.sub x x = none := by
        unfold Format.sub
        rw [read_inf double (hb .f64) hx]
        cases neg double x <;> rfl
      exact e5
    rw [e4] at h
    rw [eq_ky, h, show Fl.fin double x = false from inf_fin .f64 hx]; rfl
  · have hx' : nan .f64 x = true := hx
    rw [floatBits_nan .f64 (.inl hx')] at h
    rw [eq_ky, h, show Fl.fin double x = false from nan_fin .f64 hx']; rfl
theorem lt_eqv {k : FloatKind} {x x' y y' : Nat} (hx : Eqv k x x') (hy : Eqv k y y') : Fl.lt k x y = Fl.lt k x' y' := by unfold Fl.lt; rw [order_eqv k hx hy]
theorem gt_eqv {k : FloatKind} {x x' y y' : Nat} (hx : Eqv k x x') (hy : Eqv k y y') : Fl.gt k x y = Fl.gt k x' y' := by unfold Fl.gt; rw [order_eqv k hx hy]
theorem le_eqv {k : FloatKind} {x x' y y' : Nat} (hx : Eqv k x x') (hy : Eqv k y y') : Fl.le k x y = Fl.le k x' y' := by unfold Fl.le; rw [order_eqv k hx hy]
theorem ge_eqv {k : FloatKind} {x x' y y' : Nat} (hx : Eqv k x x') (hy : Eqv k y y') : Fl.ge k x y = Fl.ge k x' y' := by unfold Fl.ge; rw [order_eqv k hx hy]
theorem eq_eqv {k : FloatKind} {x x' y y' : Nat} (hx : Eqv k x x') (hy : Eqv k y y') : Fl.eq k x y = Fl.eq k x' y' := by unfold Fl.eq; rw [order_eqv k hx hy]
theorem Res.w {x r : Nat} (h : Res .f64 (floatToFloatBits .f32 x .f64) r) : Eqv .f64 r (Fl.wid x) := Res.wid h (Eqv.refl .f32 x)
end
end Go.Fl
