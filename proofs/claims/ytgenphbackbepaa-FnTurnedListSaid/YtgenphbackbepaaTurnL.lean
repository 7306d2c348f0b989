/- A list with all signs turned: its mean and drift have their signs turned, its spread is the same. Plain laws. -/
import Derived.Test.YtgenphbackbepaaMidSp
import Derived.Test.YtgenphbackbepaaMildL
import Derived.Test.YtgenphbackbepaaNegL
import Derived.Test.YtgenphbackbepaaMean
import Derived.Test.YtgenphbackbepaaDrift
namespace Go.Proofs.Ytgenphbackbepaa
open Go.RowKit Ieee Go.Fl

def tuL (xs : List Nat) : List Nat := xs.map (Op.negFloat .f32)
theorem tuL_len (xs : List Nat) : (tuL xs).length = xs.length := by simp [tuL]
theorem tuL_mem {xs : List Nat} {y : Nat} : y ∈ tuL xs ↔ ∃ x ∈ xs, Op.negFloat .f32 x = y := by simp [tuL]
theorem key_neg (x : Nat) : key single (Op.negFloat .f32 x) = -key single x := key_turn .f32 x
theorem tuL_good {xs : List Nat} (h : goodB xs = true) : goodB (tuL xs) = true := by
  obtain ⟨h1, h2⟩ := goodB_iff.1 h
  refine goodB_iff.2 ⟨by rw [tuL_len]; exact h1, fun y hy => ?_⟩
  obtain ⟨x, hx, rfl⟩ := tuL_mem.1 hy
  exact neg_fin (h2 x hx)
theorem kv_turn {a b : Int} (h : b = -a) : kv double b = -kv double a := by rw [h, kv_neg]
theorem add_turn {x y x' y' : Nat} (hx : fin double x = true) (hy : fin double y = true) (hx' : fin double x' = true) (hy' : fin double y' = true) (h1 : key double x' = -key double x) (h2 : key double y' = -key double y) :
    key double (arith .f64 .add x' y') = -key double (arith .f64 .add x y) := by
  obtain ⟨r, e, v, _, _⟩ := add_spec double hx hy
  obtain ⟨r', e', v', _, _⟩ := add_spec double hx' hy'
  rw [arith_some (k := .f64) (op := .add) e, arith_some (k := .f64) (op := .add) e']
  have := v.neg double
  rw [show -(kv double (key double x) + kv double (key double y)) = kv double (key double x') + kv double (key double y') by rw [kv_turn h1, kv_turn h2]; grind] at this
  exact v'.same double this
theorem mul_turn {x y y' : Nat} (hx : fin double x = true) (hy : fin double y = true) (hy' : fin double y' = true) (h2 : key double y' = -key double y) :
    key double (arith .f64 .mul x y') = -key double (arith .f64 .mul x y) := by
  obtain ⟨r, e, v, _, _⟩ := mul_spec double hx hy
  obtain ⟨r', e', v', _, _⟩ := mul_spec double hx hy'
  rw [arith_some (k := .f64) (op := .mul) e, arith_some (k := .f64) (op := .mul) e']
  have := v.neg double
  rw [show -(kv double (key double x) * kv double (key double y)) = kv double (key double x) * kv double (key double y') by rw [kv_turn h2]; grind] at this
  exact v'.same double this
theorem mul_turn' {x x' y : Nat} (hx : fin double x = true) (hx' : fin double x' = true) (hy : fin double y = true) (h2 : key double x' = -key double x) :
    key double (arith .f64 .mul x' y) = -key double (arith .f64 .mul x y) := by
  obtain ⟨r, e, v, _, _⟩ := mul_spec double hx hy
  obtain ⟨r', e', v', _, _⟩ := mul_spec double hx' hy
  rw [arith_some (k := .f64) (op := .mul) e, arith_some (k := .f64) (op := .mul) e']
  have := v.neg double
  rw [show -(kv double (key double x) * kv double (key double y)) = kv double (key double x') * kv double (key double y) by rw [kv_turn h2]; grind] at this
  exact v'.same double this
theorem read_two {x x' : Nat} (h : fin double x = true) (hr : rung double x = rung double x') : ∃ m p, double.read x = .number (neg double x) m p ∧ double.read x' = .number (neg double x') m p ∧ (rung double x = 0 → m = 0) := by
  have h : rung double x < double.infRung := by simpa [fin] using h
  have h' : rung double x' < double.infRung := by rw [← hr]; exact h
  unfold Format.read
  simp only []
  by_cases hb : rung double x < double.binade
  · rw [if_pos (by unfold rung at hb; exact hb), if_pos (by rw [hr] at hb; unfold rung at hb; exact hb)]
    refine ⟨_, _, rfl, ?_, fun e => e⟩
    show Datum.number (neg double x') (x' % double.signWeight) _ = _
    rw [show x' % double.signWeight = x % double.signWeight from hr.symm]
  · rw [if_neg (by unfold rung at hb; exact hb), if_pos (by unfold rung at h; exact h), if_neg (by rw [hr] at hb; unfold rung at hb; exact hb), if_pos (by unfold rung at h'; exact h')]
    refine ⟨_, _, rfl, ?_, fun e => absurd (by rw [e]; exact binade_pos double) hb⟩
    rw [show x' % double.signWeight = x % double.signWeight from hr.symm]; rfl
theorem key_rung (x : Nat) : (key double x).natAbs = rung double x := by unfold key; split <;> simp
theorem quo_turn {x x' y : Nat} (hx : fin double x = true) (hy : fin double y = true) (h0 : key double y ≠ 0) (h : key double x' = -key double x) :
    ∃ r r', floatBits .quo .f64 x y = some r ∧ floatBits .quo .f64 x' y = some r' ∧ key double r' = -key double r ∧ Fl.nan .f64 r = false ∧ Fl.nan .f64 r' = false := by
  have hr : rung double x = rung double x' := by
    have a := key_rung x
    have b := key_rung x'
    rw [h] at b
    omega
  obtain ⟨m, i, e1, e1', z1⟩ := read_two hx hr
  obtain ⟨n, j, e2, v2, _, z2⟩ := read_val double hy
  have hn : n ≠ 0 := fun h => h0 (z2.1 h)
  refine ⟨double.word (neg double x ^^ neg double y) (rnd double (2 * ((m <<< (double.fractionBits + 2 + n.log2 - m.log2)) / n) + ((m <<< (double.fractionBits + 2 + n.log2 - m.log2)) % n != 0).toNat) (i - j - (double.fractionBits + 2 + n.log2 - m.log2 : Nat) - 1)),
    double.word (neg double x' ^^ neg double y) (rnd double (2 * ((m <<< (double.fractionBits + 2 + n.log2 - m.log2)) / n) + ((m <<< (double.fractionBits + 2 + n.log2 - m.log2)) % n != 0).toNat) (i - j - (double.fractionBits + 2 + n.log2 - m.log2 : Nat) - 1)), ?_, ?_, ?_, word_num double _ _ _, word_num double _ _ _⟩
  · show double.div x y = _
    unfold Format.div; rw [e1, e2]; simp only [Datum.quotient, hn, if_false, Option.map_some, write_num]
  · show double.div x' y = _
    unfold Format.div; rw [e1', e2]; simp only [Datum.quotient, hn, if_false, Option.map_some, write_num]
  · rw [word_key, word_key]
    by_cases hs : neg double x' = neg double x
    · have hz : rung double x = 0 := by
        have a : key double x' = key double x := by unfold key; rw [hs, hr]
        have b := key_rung x
        omega
      have hm := z1 hz
      subst hm
      have hv : (2 * ((0 <<< (double.fractionBits + 2 + n.log2 - Nat.log2 0)) / n) + ((0 <<< (double.fractionBits + 2 + n.log2 - Nat.log2 0)) % n != 0).toNat) = 0 := by simp
      rw [hv, hs]
      unfold sk rnd
      rw [if_pos rfl]
      split <;> rfl
    · have hs' : neg double x' = !neg double x := by cases h1 : neg double x' <;> cases h2 : neg double x <;> simp_all
      rw [hs']
      unfold sk
      cases neg double x <;> cases neg double y <;> simp

/-! the mean -/
theorem topi : ((single.infRung - 1 : Nat) : Int).natAbs < single.infRung := top32
theorem sum_turn : ∀ (xs : List Nat) (c s s' : Nat), c + xs.length < 2 ^ 29 → Btw c (-((single.infRung - 1 : Nat) : Int)) ((single.infRung - 1 : Nat) : Int) s → Btw c (-((single.infRung - 1 : Nat) : Int)) ((single.infRung - 1 : Nat) : Int) s' → key double s' = -key double s → (∀ x ∈ xs, fin32 x = true) →
    key double ((tuL xs).foldl (fun s x => arith .f64 .add s (wid x)) s') = -key double (xs.foldl (fun s x => arith .f64 .add s (wid x)) s)
  | [], _, _, _, _, _, _, h, _ => h
  | x :: xs, c, s, s', hc, hs, hs', h, hx => by
    have hx0 := hx x List.mem_cons_self
    have hk := key_fin (f := single) hx0
    have hw : Btw 1 (-((single.infRung - 1 : Nat) : Int)) ((single.infRung - 1 : Nat) : Int) (wid x) := btw_wid hx0 (by omega) (by omega)
    have hx0' : fin32 (Op.negFloat .f32 x) = true := neg_fin hx0
    have hk' := key_fin (f := single) hx0'
    have hw' : Btw 1 (-((single.infRung - 1 : Nat) : Int)) ((single.infRung - 1 : Nat) : Int) (wid (Op.negFloat .f32 x)) := btw_wid hx0' (by omega) (by omega)
    simp only [List.length_cons] at hc
    have a := btw_add (c := c) (d := 1) (by omega) bot32 top32 hs hw
    have a' := btw_add (c := c) (d := 1) (by omega) bot32 top32 hs' hw'
    have kw : key double (wid (Op.negFloat .f32 x)) = -key double (wid x) := by
      apply kv_inj double
      rw [wid_kv hx0', key_neg, kv_neg, kv_neg, wid_kv hx0]
    exact sum_turn xs (c + 1) _ _ (by omega) a a' (add_turn hs.1 hw.1 hs'.1 hw'.1 h kw) (fun y hy => hx y (List.mem_cons_of_mem _ hy))
theorem mean_turn {xs : List Nat} (hg : goodB xs = true) (h0 : 0 < xs.length) : meanB xs = true ∧ meanB (tuL xs) = true ∧ Fl.nan .f32 (meanV xs) = false ∧ Fl.nan .f32 (meanV (tuL xs)) = false ∧ Fl.ky .f32 (meanV (tuL xs)) = -Fl.ky .f32 (meanV xs) := by
  obtain ⟨h64, hfin⟩ := goodB_iff.1 hg
  have hg' := tuL_good hg
  have b1 : meanB xs = true := meanB_iff.2 ⟨hg, h0⟩
  have b2 : meanB (tuL xs) = true := meanB_iff.2 ⟨hg', by rw [tuL_len]; exact h0⟩
  have s := sum_turn xs 0 0 0 (by omega) (btw_zero _ _) (btw_zero _ _) (by decide +kernel) hfin
  have f1 := sum_btw bot32 top32 hg (all_btw hg)
  have f2 := sum_btw bot32 top32 hg' (all_btw hg')
  obtain ⟨i1, i2, _⟩ := int_spec (n := (xs.length : Int)) (by omega)
  have k0 : key double (floatOfInt .f64 (xs.length : Int)) ≠ 0 := by
    intro e
    rw [e, kv_zero] at i2
    have : ((0 : Int) : Rat) = ((xs.length : Int) : Rat) := i2
    have := Rat.intCast_inj.1 this
    omega
  obtain ⟨r, r', e, e', hk, _, _⟩ := quo_turn (x := sumN xs) (x' := sumN (tuL xs)) f1.1 i1 k0 s
  have q1 := btw_div h0 (by omega) bot32 top32 f1
  have q2 := btw_div (c := (tuL xs).length) (by rw [tuL_len]; exact h0) (by rw [tuL_len]; omega) bot32 top32 f2
  have er : arith .f64 .quo (sumN xs) (floatOfInt .f64 (xs.length : Int)) = r := arith_some e
  have er' : arith .f64 .quo (sumN (tuL xs)) (floatOfInt .f64 (xs.length : Int)) = r' := arith_some e'
  rw [er] at q1
  rw [tuL_len, er'] at q2
  obtain ⟨a1, a2, a3, a4⟩ := q1
  obtain ⟨c1, c2, c3, c4⟩ := q2
  rw [show ((1 : Nat) : Rat) = 1 from rfl, Rat.one_mul] at a3 a4 c3 c4
  obtain ⟨t, et, _, ft, vt, _, _⟩ := narrow_fin a1 top32 bot32 a4 a3
  obtain ⟨t', et', _, ft', vt', _, _⟩ := narrow_fin c1 top32 bot32 c4 c3
  have m1 : meanV xs = t := by
    unfold meanV meanQ; rw [b1, er]
    show nar r = t
    unfold nar; rw [et]; rfl
  have m2 : meanV (tuL xs) = t' := by
    unfold meanV meanQ; rw [b2, tuL_len, er']
    show nar r' = t'
    unfold nar; rw [et']; rfl
  rw [m1, m2]
  refine ⟨b1, b2, Fl.fin_nan .f32 (show Fl.fin single t = true from ft), Fl.fin_nan .f32 (show Fl.fin single t' = true from ft'), ?_⟩
  have := vt.neg single
  rw [← kv_turn hk] at this
  exact vt'.same single this

/-! the drift -/
theorem bound_fin {q : Rat} {k : Int} (h : RV double q k) {j : Nat} (hj : j ≤ 800) (h1 : -pw j ≤ q) (h2 : q ≤ pw j) : k.natAbs < double.infRung ∧ -pw j ≤ kv double k ∧ kv double k ≤ pw j := by
  obtain ⟨r, e1, e2⟩ := repr64 (m := 1) (p := (j : Int)) (by decide) (by omega) (by omega)
  have er : kv double (r : Int) = pw j := by
    unfold kv
    rw [if_neg (by omega)]
    show V double r = _
    rw [e1]; unfold mv; rw [show ((1 : Nat) : Rat) = 1 from rfl, Rat.one_mul]
  have k1 : k ≤ (r : Int) := h.le_of double (by omega) (by rw [er]; exact h2)
  have k2 : -(r : Int) ≤ k := h.ge_of double (by omega) (by rw [kv_neg, er]; exact h1)
  refine ⟨by omega, ?_, ?_⟩
  · rw [← er, ← kv_neg]; exact kv_le double k2
  · rw [← er]; exact kv_le double k1
theorem val_bound {x : Nat} (h : fin32 x = true) : -pw 128 ≤ kv single (key single x) ∧ kv single (key single x) ≤ pw 128 := by
  have h1 : (key single x).natAbs < single.infRung := key_fin h
  rw [inf32r] at h1
  have e : pw 128 = kv single (K 128) := (kvK 128).symm
  rw [e, ← kv_neg]
  exact ⟨kv_le single (by unfold K; omega), kv_le single (by unfold K; omega)⟩
theorem prod_bound {a b A B : Rat} (h1 : -A ≤ a) (h2 : a ≤ A) (h3 : -B ≤ b) (h4 : b ≤ B) : -(A * B) ≤ a * b ∧ a * b ≤ A * B := by
  have p1 : 0 ≤ (A - a) * (B + b) := Rat.mul_nonneg (by grind) (by grind)
  have p2 : 0 ≤ (A + a) * (B - b) := Rat.mul_nonneg (by grind) (by grind)
  have p3 : 0 ≤ (A - a) * (B - b) := Rat.mul_nonneg (by grind) (by grind)
  have p4 : 0 ≤ (A + a) * (B + b) := Rat.mul_nonneg (by grind) (by grind)
  constructor <;> grind
theorem driftT_fin {n k x : Nat} (hx : fin32 x = true) (hn : n ≤ 9) (hk : k < n) : fin double (driftT n k x) = true ∧ -pw ((132 : Nat) : Int) ≤ kv double (key double (driftT n k x)) ∧ kv double (key double (driftT n k x)) ≤ pw ((132 : Nat) : Int) := by
  obtain ⟨i1, i2, _⟩ := int_spec (n := 2 * (k : Int) - ((n : Int) - 1)) (by omega)
  have hwf : fin double (wid x) = true := by rw [wid_fin]; exact hx
  obtain ⟨t, et, vt, _, _⟩ := mul_spec double i1 hwf
  rw [i2, wid_kv hx] at vt
  obtain ⟨b1, b2⟩ := val_bound hx
  have eT : driftT n k x = t := arith_some (k := .f64) (op := .mul) et
  obtain ⟨c, hc⟩ : ∃ c : Int, 2 * (k : Int) - ((n : Int) - 1) = c := ⟨_, rfl⟩
  rw [hc] at vt
  have e16 : pw 4 = ((16 : Int) : Rat) := by rw [show pw 4 = ((2 ^ 4 : Nat) : Rat) from pw_nat 4]; rfl
  have c1 : -pw 4 ≤ (c : Rat) := by rw [e16, ← Rat.intCast_neg]; exact Rat.intCast_le_intCast.2 (by omega)
  have c2 : (c : Rat) ≤ pw 4 := by rw [e16]; exact Rat.intCast_le_intCast.2 (by omega)
  obtain ⟨p1, p2⟩ := prod_bound c1 c2 b1 b2
  rw [show pw 4 * pw 128 = pw ((132 : Nat) : Int) by rw [← pw_add]; rfl] at p1 p2
  obtain ⟨f1, f2, f3⟩ := bound_fin vt (j := 132) (by decide) p1 p2
  rw [eT]
  exact ⟨fin_key f1, f2, f3⟩
theorem driftN_fin {xs : List Nat} (hx : ∀ x ∈ xs, fin32 x = true) (h9 : xs.length ≤ 9) : ∀ k, k ≤ xs.length → fin double (driftN xs k) = true ∧ -pw ((132 + k : Nat) : Int) ≤ kv double (key double (driftN xs k)) ∧ kv double (key double (driftN xs k)) ≤ pw ((132 + k : Nat) : Int)
  | 0, _ => by
    have p := pw_pos ((132 + 0 : Nat) : Int)
    have e : kv double (key double 0) = 0 := by rw [show key double 0 = 0 from by decide +kernel, kv_zero]
    refine ⟨by show fin double 0 = true; decide +kernel, ?_, ?_⟩
    · show _ ≤ kv double (key double 0)
      rw [e]; grind
    · show kv double (key double 0) ≤ _
      rw [e]; grind
  | k + 1, hk => by
    obtain ⟨f, a, b⟩ := driftN_fin hx h9 k (by omega)
    have hxk : fin32 (xs.getD k 0) = true := by
      have e : xs.getD k 0 = xs[k]'(by omega) := by simp [List.getD, show k < xs.length by omega]
      rw [e]; exact hx _ (List.getElem_mem _)
    obtain ⟨tf, ta, tb⟩ := driftT_fin hxk h9 (show k < xs.length by omega)
    rw [show driftN xs (k + 1) = arith .f64 .add (driftN xs k) (driftT xs.length k (xs.getD k 0)) from rfl]
    obtain ⟨s, es, vs, _, _⟩ := add_spec double f tf
    rw [arith_some (k := .f64) (op := .add) es]
    have p1 : pw ((132 + (k + 1) : Nat) : Int) = pw ((132 + k : Nat) : Int) * 2 := by rw [show ((132 + (k + 1) : Nat) : Int) = ((132 + k : Nat) : Int) + 1 by omega]; exact pw_succ _
    have p2 : pw ((132 : Nat) : Int) ≤ pw ((132 + k : Nat) : Int) := pw_le (by omega)
    obtain ⟨f1, f2, f3⟩ := bound_fin vs (j := 132 + (k + 1)) (by omega) (by rw [p1]; grind) (by rw [p1]; grind)
    exact ⟨fin_key f1, f2, f3⟩
theorem drift_turn {xs : List Nat} (hx : ∀ x ∈ xs, fin32 x = true) (h9 : xs.length ≤ 9) : ∀ k, k ≤ xs.length → key double (driftN (tuL xs) k) = -key double (driftN xs k)
  | 0, _ => by show key double 0 = -key double 0; decide +kernel
  | k + 1, hk => by
    have hx' : ∀ y ∈ tuL xs, fin32 y = true := fun y hy => by
      obtain ⟨x, h, rfl⟩ := tuL_mem.1 hy
      exact neg_fin (hx x h)
    have ih := drift_turn hx h9 k (by omega)
    have hxk : fin32 (xs.getD k 0) = true := by
      have e : xs.getD k 0 = xs[k]'(by omega) := by simp [List.getD, show k < xs.length by omega]
      rw [e]; exact hx _ (List.getElem_mem _)
    have e : (tuL xs).getD k 0 = Op.negFloat .f32 (xs.getD k 0) := by simp [tuL, List.getD, show k < xs.length by omega]
    rw [show driftN (tuL xs) (k + 1) = arith .f64 .add (driftN (tuL xs) k) (driftT (tuL xs).length k ((tuL xs).getD k 0)) from rfl,
      show driftN xs (k + 1) = arith .f64 .add (driftN xs k) (driftT xs.length k (xs.getD k 0)) from rfl, e, tuL_len]
    generalize xs.getD k 0 = x at hxk
    have kw : key double (wid (Op.negFloat .f32 x)) = -key double (wid x) := by
      apply kv_inj double
      rw [wid_kv (neg_fin hxk), key_neg, kv_neg, kv_neg, wid_kv hxk]
    obtain ⟨i1, _, _⟩ := int_spec (n := 2 * (k : Int) - ((xs.length : Int) - 1)) (by omega)
    have kt : key double (driftT xs.length k (Op.negFloat .f32 x)) = -key double (driftT xs.length k x) := mul_turn i1 (by rw [wid_fin]; exact hxk) (by rw [wid_fin]; exact neg_fin hxk) kw
    exact add_turn (driftN_fin hx h9 k (by omega)).1 (driftT_fin hxk h9 (by omega)).1 (driftN_fin hx' (by rw [tuL_len]; exact h9) k (by rw [tuL_len]; omega)).1 (driftT_fin (neg_fin hxk) h9 (by omega)).1 ih kt
theorem six_val : fin double 4618441417868443648 = true ∧ kv double (key double 4618441417868443648) = 6 := by
  have h := int_spec (n := 6) (by decide)
  rw [show floatOfInt .f64 6 = 4618441417868443648 from by decide +kernel] at h
  exact ⟨h.1, h.2.1⟩
theorem driftR_turn {xs : List Nat} (hx : ∀ x ∈ xs, fin32 x = true) (h2 : 2 ≤ xs.length) (h9 : xs.length ≤ 9) : Fl.nan .f64 (driftR xs) = false ∧ Fl.nan .f64 (driftR (tuL xs)) = false ∧ Fl.ky .f64 (driftR (tuL xs)) = -Fl.ky .f64 (driftR xs) := by
  have hx' : ∀ y ∈ tuL xs, fin32 y = true := fun y hy => by
    obtain ⟨x, h, rfl⟩ := tuL_mem.1 hy
    exact neg_fin (hx x h)
  obtain ⟨f, a, b⟩ := driftN_fin hx h9 xs.length (Nat.le_refl _)
  obtain ⟨f', a', b'⟩ := driftN_fin hx' (by rw [tuL_len]; exact h9) xs.length (by rw [tuL_len]; exact Nat.le_refl _)
  have kd := drift_turn hx h9 xs.length (Nat.le_refl _)
  obtain ⟨s1, s2⟩ := six_val
  have km := mul_turn' f f' s1 kd
  have fm : ∀ {u : Nat}, fin double u = true → -pw ((132 + xs.length : Nat) : Int) ≤ kv double (key double u) → kv double (key double u) ≤ pw ((132 + xs.length : Nat) : Int) → fin double (arith .f64 .mul u 4618441417868443648) = true := by
    intro u hu h1 h3
    obtain ⟨m, em, vm, _, _⟩ := mul_spec double hu s1
    rw [arith_some (k := .f64) (op := .mul) em]
    rw [s2] at vm
    have p1 : pw ((132 + xs.length + 3 : Nat) : Int) = pw ((132 + xs.length : Nat) : Int) * 8 := by
      rw [show ((132 + xs.length + 3 : Nat) : Int) = ((132 + xs.length : Nat) : Int) + 3 by omega, pw_add, show pw 3 = ((2 ^ 3 : Nat) : Rat) from pw_nat 3]; rfl
    have p0 := pw_pos ((132 + xs.length : Nat) : Int)
    exact fin_key (bound_fin vm (j := 132 + xs.length + 3) (by omega) (by rw [p1]; grind) (by rw [p1]; grind)).1
  have hpos : (1 : Int) ≤ (xs.length : Int) * ((xs.length : Int) * xs.length - 1) := by
    have h4 : (2 : Int) * 2 ≤ (xs.length : Int) * xs.length := Int.mul_le_mul (by omega) (by omega) (by decide) (by omega)
    have : (1 : Int) * 1 ≤ (xs.length : Int) * ((xs.length : Int) * xs.length - 1) := Int.mul_le_mul (by omega) (by omega) (by decide) (by omega)
    omega
  have hcube := cube (n := (xs.length : Int)) (by omega) (by omega)
  obtain ⟨i1, i2, _⟩ := int_spec (n := (xs.length : Int) * ((xs.length : Int) * xs.length - 1)) (by omega)
  have k0 : key double (floatOfInt .f64 ((xs.length : Int) * ((xs.length : Int) * xs.length - 1))) ≠ 0 := by
    intro e
    rw [e, kv_zero] at i2
    have : ((0 : Int) : Rat) = (((xs.length : Int) * ((xs.length : Int) * xs.length - 1) : Int) : Rat) := i2
    have := Rat.intCast_inj.1 this
    omega
  obtain ⟨r, r', e, e', hk, n1, n2⟩ := quo_turn (fm f a b) i1 k0 km
  have e1 : driftR xs = r := by unfold driftR; exact arith_some e
  have e2 : driftR (tuL xs) = r' := by unfold driftR; rw [tuL_len]; exact arith_some e'
  rw [e1, e2]
  exact ⟨n1, n2, hk⟩

/-! the spread -/
theorem end_keys {xs : List Nat} (hx : ∀ x ∈ xs, fin32 x = true) (h0 : 0 < xs.length) : (∀ x ∈ xs, key single ((isort xs).getD 0 0) ≤ key single x ∧ key single x ≤ key single ((isort xs).getD (xs.length - 1) 0)) ∧ (isort xs).getD 0 0 ∈ xs ∧ (isort xs).getD (xs.length - 1) 0 ∈ xs := by
  have hr := isort_rising (xs := xs) (fun x m => Fl.fin_nan .f32 (show Fl.fin single x = true from hx x m))
  have hl := isort_len xs
  have mem : ∀ k, k < xs.length → (isort xs).getD k 0 ∈ xs := fun k hk => by
    have hk' : k < (isort xs).length := by omega
    have e : (isort xs).getD k 0 = (isort xs)[k] := by simp [List.getD, hk']
    rw [e]; exact isort_mem.1 (List.getElem_mem _)
  refine ⟨fun x m => ?_, mem 0 h0, mem _ (by omega)⟩
  obtain ⟨i, hi, e⟩ := List.getElem_of_mem (isort_mem.2 m)
  have e2 : (isort xs).getD i 0 = x := by rw [← e]; simp [List.getD, hi]
  have a := hr 0 i (by omega) hi
  have b := hr i (xs.length - 1) (by omega) (by omega)
  rw [e2] at a b
  exact ⟨a, b⟩
theorem spread_turn {xs : List Nat} (hg : goodB xs = true) : sprB (tuL xs) = sprB xs ∧ Fl.nan .f32 (sprV xs) = false ∧ Fl.nan .f32 (sprV (tuL xs)) = false ∧ Fl.ky .f32 (sprV (tuL xs)) = Fl.ky .f32 (sprV xs) := by
  have hx := (goodB_iff.1 hg).2
  have hx' := (goodB_iff.1 (tuL_good hg)).2
  by_cases h0 : 0 < xs.length
  · obtain ⟨a, a0, a1⟩ := end_keys hx h0
    obtain ⟨b, b0, b1⟩ := end_keys hx' (by rw [tuL_len]; exact h0)
    rw [tuL_len] at b b1
    have hlo : key single ((isort (tuL xs)).getD 0 0) = -key single ((isort xs).getD (xs.length - 1) 0) := by
      apply Int.le_antisymm
      · rw [← key_neg]
        exact (b _ (tuL_mem.2 ⟨_, a1, rfl⟩)).1
      · obtain ⟨x, hm, e⟩ := tuL_mem.1 b0
        rw [← e, key_neg]
        have := (a x hm).2
        omega
    have hhi : key single ((isort (tuL xs)).getD (xs.length - 1) 0) = -key single ((isort xs).getD 0 0) := by
      apply Int.le_antisymm
      · obtain ⟨x, hm, e⟩ := tuL_mem.1 b1
        rw [← e, key_neg]
        have := (a x hm).1
        omega
      · rw [← key_neg]
        exact (b _ (tuL_mem.2 ⟨_, a0, rfl⟩)).2
    obtain ⟨d, ed, vd, nd, _⟩ := sub_spec single (show fin single _ = true from hx _ a1) (show fin single _ = true from hx _ a0)
    obtain ⟨d', ed', vd', nd', _⟩ := sub_spec single (show fin single _ = true from hx' _ b1) (show fin single _ = true from hx' _ b0)
    rw [hlo, hhi, kv_neg, kv_neg, show -kv single (key single ((isort xs).getD 0 0)) - -kv single (key single ((isort xs).getD (xs.length - 1) 0)) = kv single (key single ((isort xs).getD (xs.length - 1) 0)) - kv single (key single ((isort xs).getD 0 0)) by grind] at vd'
    have hk := vd'.same single vd
    have e1 : sprD xs = d := by unfold sprD; exact arith_some (k := .f32) (op := .sub) ed
    have e2 : sprD (tuL xs) = d' := by unfold sprD; rw [tuL_len]; exact arith_some (k := .f32) (op := .sub) ed'
    have hf : fin32 d' = fin32 d := by
      have r1 : (key single d).natAbs = rung single d := by unfold key; split <;> simp
      have r2 : (key single d').natAbs = rung single d' := by unfold key; split <;> simp
      show fin single d' = fin single d
      unfold fin
      rw [← r1, ← r2, hk]
    have hB : sprB (tuL xs) = sprB xs := by unfold sprB; rw [tuL_len, e1, e2, hf]
    have hz : Fl.nan .f32 0 = false := by decide +kernel
    refine ⟨hB, ?_, ?_, ?_⟩
    · unfold sprV; split
      · rw [e1]; exact nd
      · exact hz
    · unfold sprV; split
      · rw [e2]; exact nd'
      · exact hz
    · unfold sprV; rw [hB]; split
      · rw [e1, e2]; exact hk
      · rfl
  · have e1 : sprB xs = false := by unfold sprB; rw [decide_eq_false h0]; rfl
    have e2 : sprB (tuL xs) = false := by unfold sprB; rw [tuL_len, decide_eq_false h0]; rfl
    have v1 : sprV xs = 0 := by unfold sprV; rw [e1]; rfl
    have v2 : sprV (tuL xs) = 0 := by unfold sprV; rw [e2]; rfl
    rw [e1, e2, v1, v2]
    exact ⟨rfl, by decide +kernel, by decide +kernel, rfl⟩
end Go.Proofs.Ytgenphbackbepaa
