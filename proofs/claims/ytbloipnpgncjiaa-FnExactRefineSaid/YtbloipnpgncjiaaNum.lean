/- Numbers: a double narrowed to a single, whole numbers as doubles, multiples of singles, and the mean lies between. Plain laws. -/
import Derived.Test.YtbloipnpgncjiaaFl
import Derived.Laws.Cover2
namespace Go.Fl
open Ieee

/-- a double within the greatest single, narrowed -/
theorem narrow_fin {x : Nat} (hx : fin double x = true) {g h : Int} (hg : g.natAbs < single.infRung) (hh : h.natAbs < single.infRung)
    (h1 : kv double (key double x) ≤ kv single g) (h2 : kv single h ≤ kv double (key double x)) :
    ∃ r, floatToFloatBits .f64 x .f32 = some r ∧ r < 2 ^ 32 ∧ fin single r = true ∧ RV single (kv double (key double x)) (key single r) ∧ key single r ≤ g ∧ h ≤ key single r := by
  obtain ⟨m, p, e1, e2, _⟩ := read_val double hx
  have hv : RV single (kv double (key double x)) (sk single (neg double x) m p) := ⟨_, _, _, e2, rfl⟩
  have hk := word_key single (neg double x) m p
  have b1 : sk single (neg double x) m p ≤ g := hv.le_of single hg h1
  have b2 : h ≤ sk single (neg double x) m p := hv.ge_of single hh h2
  have hf : rnd single m p < single.infRung := by
    unfold sk at b1 b2
    split at b1 <;> simp_all <;> omega
  refine ⟨single.word (neg double x) (rnd single m p), ?_, word_width single _ _ _, fin_word single hf, by rw [hk]; exact hv, by rw [hk]; exact b1, by rw [hk]; exact b2⟩
  unfold floatToFloatBits
  rw [if_neg (by decide)]
  have hd : FloatKind.f64.decode x = .number (neg double x) m p := e1
  rw [hd]
  simp only []
  have he : FloatKind.f32.encode (.number (neg double x) m p) = single.word (neg double x) (rnd single m p) := write_num single _ _ _
  rw [he]
  have hn : (FloatKind.f32.decode (single.word (neg double x) (rnd single m p))).isInfinity = false := by
    obtain ⟨m', p', e', _⟩ := read_fin single (fin_word single (s := neg double x) hf)
    show (single.read _).isInfinity = false
    rw [e']; rfl
  rw [hn]; rfl

theorem bin64 : double.binade = 2 ^ 52 := by decide +kernel
theorem bin32 : single.binade = 2 ^ 23 := by decide +kernel
theorem least64 : double.leastPlace = -1074 := by decide +kernel
theorem least32 : single.leastPlace = -149 := by decide +kernel
theorem inf64r : double.infRung = 2047 * 2 ^ 52 := by decide +kernel
theorem inf32r : single.infRung = 255 * 2 ^ 23 := by decide +kernel

/-- a number of few digits at a place that is not too great, as a double -/
theorem repr64 {m : Nat} {p : Int} (hm : m < 2 ^ 53) (h1 : -1074 ≤ p) (h2 : p ≤ 900) : ∃ r, V double r = mv m p ∧ r < double.infRung := by
  obtain ⟨r, e1, e2⟩ := repr double (m := m) (p := p) (by rw [bin64]; omega) (by rw [least64]; omega)
  refine ⟨r, e1, ?_⟩
  rw [inf64r]
  have : ((p - double.leastPlace).toNat + 2) * double.binade ≤ 2047 * 2 ^ 52 := by rw [bin64, least64]; exact Nat.mul_le_mul_right _ (by omega)
  omega

theorem mv_nat (n : Nat) : mv n 0 = (n : Rat) := by unfold mv; rw [pw_zero, Rat.mul_one]

/-- a whole number as a double -/
theorem int_spec {n : Int} (hn : n.natAbs < 2 ^ 53) : fin double (floatOfInt .f64 n) = true ∧ kv double (key double (floatOfInt .f64 n)) = (n : Rat) ∧ floatOfInt .f64 n < 2 ^ 64 := by
  obtain ⟨r, e1, e2⟩ := repr64 (m := n.natAbs) (p := 0) hn (by omega) (by omega)
  have hw : floatOfInt .f64 n = double.word (decide (n < 0)) r := write_repr double e2 e1
  rw [hw]
  refine ⟨fin_word double e2, ?_, double.word_lt _ (by have := double.infRung_lt; omega)⟩
  rw [kv_of_word double e2, e1, mv_nat]
  by_cases h : n < 0
  · rw [if_pos (by simpa using h)]
    have : (n : Int) = -(n.natAbs : Int) := by omega
    conv => rhs; rw [this]
    rw [Rat.intCast_neg]; rfl
  · rw [if_neg (by simpa using h)]
    have : (n : Int) = (n.natAbs : Int) := by omega
    conv => rhs; rw [this]
    rfl

theorem mv_mul (c m : Nat) (p : Int) : mv (c * m) p = (c : Rat) * mv m p := by
  unfold mv
  rw [Rat.natCast_mul]; grind

/-- the number of a single's rung -/
theorem form32 {r : Nat} (hr : r < single.infRung) : ∃ m p, V single r = mv m p ∧ m < 2 ^ 24 ∧ -149 ≤ p ∧ p ≤ 104 := by
  unfold V
  rw [bin32, least32]
  rw [inf32r] at hr
  split
  · exact ⟨r, -149, rfl, by omega, by omega, by omega⟩
  · have h1 : r / 2 ^ 23 < 255 := by rw [Nat.div_lt_iff_lt_mul (by decide)]; exact hr
    have h2 := Nat.mod_lt r (show 0 < 2 ^ 23 by decide)
    exact ⟨_, _, rfl, by omega, by omega, by omega⟩

/-- a multiple of a single is a double -/
theorem scaled (c : Nat) (hc : c < 2 ^ 29) {g : Int} (hg : g.natAbs < single.infRung) : ∃ G : Int, G.natAbs < double.infRung ∧ kv double G = (c : Rat) * kv single g := by
  obtain ⟨m, p, e, h1, h2, h3⟩ := form32 hg
  have h4 : c * m < 2 ^ 53 := by
    have := Nat.mul_lt_mul'' hc h1
    simpa using this
  obtain ⟨r, e1, e2⟩ := repr64 (m := c * m) (p := p) h4 (by omega) (by omega)
  have hp : kv double (r : Int) = (c : Rat) * mv m p := by
    unfold kv
    rw [if_neg (by omega)]
    show V double r = _
    rw [e1, mv_mul]
  by_cases h : g < 0
  · refine ⟨-(r : Int), by omega, ?_⟩
    rw [kv_neg, hp]
    unfold kv
    rw [if_pos h, e]
    grind
  · refine ⟨(r : Int), by omega, ?_⟩
    rw [hp]
    unfold kv
    rw [if_neg h, e]

/-- finite, by its key -/
theorem fin_key {f : Format} {w : Nat} (h : (key f w).natAbs < f.infRung) : fin f w = true := by
  have : (key f w).natAbs = rung f w := by unfold key; split <;> simp
  unfold fin; rw [← this]; simpa using h
theorem key_fin {f : Format} {w : Nat} (h : fin f w = true) : (key f w).natAbs < f.infRung := by
  have : (key f w).natAbs = rung f w := by unfold key; split <;> simp
  rw [this]; simpa [fin] using h

/-- between 'c' times a single and 'c' times another -/
def Btw (c : Nat) (g h : Int) (r : Nat) : Prop := fin double r = true ∧ r < 2 ^ 64 ∧ (c : Rat) * kv single g ≤ kv double (key double r) ∧ kv double (key double r) ≤ (c : Rat) * kv single h

theorem btw_fin {c : Nat} (hc : c < 2 ^ 29) {g h : Int} (hg : g.natAbs < single.infRung) (hh : h.natAbs < single.infRung) {r : Nat} {q : Rat} (hv : RB double q (key double r)) (hw : r < 2 ^ 64)
    (h1 : (c : Rat) * kv single g ≤ q) (h2 : q ≤ (c : Rat) * kv single h) : Btw c g h r := by
  obtain ⟨G, a1, a2⟩ := scaled c hc hg
  obtain ⟨H, b1, b2⟩ := scaled c hc hh
  have c1 : G ≤ key double r := (hv G a1).2 (by rw [a2]; exact h1)
  have c2 : key double r ≤ H := (hv H b1).1 (by rw [b2]; exact h2)
  exact ⟨fin_key (by omega), hw, by rw [← a2]; exact kv_le double c1, by rw [← b2]; exact kv_le double c2⟩

theorem arith_some {k : FloatKind} {op : BinOp} {x y r : Nat} (h : floatBits op k x y = some r) : arith k op x y = r := by unfold arith; rw [h]; rfl
theorem btw_zero (g h : Int) : Btw 0 g h 0 := by
  refine ⟨by decide +kernel, by decide, ?_, ?_⟩
  · rw [show key double 0 = 0 from by decide +kernel, kv_zero, show ((0 : Nat) : Rat) = 0 from rfl, Rat.zero_mul]; exact Rat.le_refl
  · rw [show key double 0 = 0 from by decide +kernel, kv_zero, show ((0 : Nat) : Rat) = 0 from rfl, Rat.zero_mul]; exact Rat.le_refl

/-- two such added -/
theorem btw_add {c d : Nat} {g h : Int} (hc : c + d < 2 ^ 29) (hg : g.natAbs < single.infRung) (hh : h.natAbs < single.infRung) {r s : Nat} (h1 : Btw c g h r) (h2 : Btw d g h s) : Btw (c + d) g h (arith .f64 .add r s) := by
  obtain ⟨a1, a2, a3, a4⟩ := h1
  obtain ⟨b1, b2, b3, b4⟩ := h2
  obtain ⟨t, e, v, _, w⟩ := add_spec double a1 b1
  rw [arith_some (k := .f64) (op := .add) e]
  have hcd : ((c + d : Nat) : Rat) = (c : Rat) + d := Rat.natCast_add c d
  refine btw_fin hc hg hh (v.rb double) w ?_ ?_
  · rw [hcd]; grind
  · rw [hcd]; grind

/-- a single, widened -/
theorem btw_wid {g h : Int} {x : Nat} (hx : fin single x = true) (h1 : g ≤ key single x) (h2 : key single x ≤ h) : Btw 1 g h (wid x) := by
  refine ⟨by rw [wid_fin]; exact hx, wid_wf x, ?_, ?_⟩
  · rw [wid_kv hx, show ((1 : Nat) : Rat) = 1 from rfl, Rat.one_mul]; exact kv_le single h1
  · rw [wid_kv hx, show ((1 : Nat) : Rat) = 1 from rfl, Rat.one_mul]; exact kv_le single h2

theorem btw_sum {g h : Int} (hg : g.natAbs < single.infRung) (hh : h.natAbs < single.infRung) : ∀ (xs : List Nat) (c s : Nat), c + xs.length < 2 ^ 29 → Btw c g h s → (∀ x ∈ xs, fin single x = true ∧ g ≤ key single x ∧ key single x ≤ h) →
    Btw (c + xs.length) g h (xs.foldl (fun s x => arith .f64 .add s (wid x)) s)
  | [], c, s, _, hs, _ => hs
  | x :: xs, c, s, hc, hs, hx => by
    have hx0 := hx x (List.mem_cons_self)
    simp only [List.length_cons] at hc
    have h1 := btw_add (c := c) (d := 1) (by omega) hg hh hs (btw_wid hx0.1 hx0.2.1 hx0.2.2)
    have h2 := btw_sum hg hh xs (c + 1) _ (by omega) h1 (fun y hy => hx y (List.mem_cons_of_mem _ hy))
    have e : c + (x :: xs).length = c + 1 + xs.length := by simp; omega
    rw [e]; exact h2

theorem le_div {a b c : Rat} (hc : 0 < c) (h : a * c ≤ b) : a ≤ b / c := by
  have e : b / c * c = b := Rat.div_mul_cancel (by grind)
  exact Rat.le_of_mul_le_mul_right (by rw [e]; exact h) hc
theorem div_le {a b c : Rat} (hc : 0 < c) (h : b ≤ a * c) : b / c ≤ a := by
  have e : b / c * c = b := Rat.div_mul_cancel (by grind)
  exact Rat.le_of_mul_le_mul_right (by rw [e]; exact h) hc
/-- such a number, divided -/
theorem btw_div {c : Nat} (h0 : 0 < c) (hc : c < 2 ^ 29) {g h : Int} (hg : g.natAbs < single.infRung) (hh : h.natAbs < single.infRung) {r : Nat} (h1 : Btw c g h r) : Btw 1 g h (arith .f64 .quo r (floatOfInt .f64 c)) := by
  obtain ⟨a1, a2, a3, a4⟩ := h1
  obtain ⟨i1, i2, _⟩ := int_spec (n := (c : Int)) (by omega)
  have i3 : kv double (key double (floatOfInt .f64 c)) = (c : Rat) := i2
  have cp : (0 : Rat) < (c : Rat) := by exact_mod_cast h0
  have k0 : key double (floatOfInt .f64 c) ≠ 0 := by
    intro e
    rw [e, kv_zero] at i3
    rw [← i3] at cp
    exact Rat.lt_irrefl cp
  obtain ⟨t, e, v, _, w⟩ := div_spec double a1 i1 k0
  rw [arith_some (k := .f64) (op := .quo) e]
  rw [i3] at v
  refine btw_fin (by omega) hg hh v w ?_ ?_
  · rw [show ((1 : Nat) : Rat) = 1 from rfl, Rat.one_mul]; exact le_div cp (by rw [Rat.mul_comm]; exact a3)
  · rw [show ((1 : Nat) : Rat) = 1 from rfl, Rat.one_mul]; exact div_le cp (by rw [Rat.mul_comm]; exact a4)

/-- narrowed -/
def nar (x : Nat) : Nat := (floatToFloatBits .f64 x .f32).getD 0
theorem btw_nar {g h : Int} (hg : g.natAbs < single.infRung) (hh : h.natAbs < single.infRung) {r : Nat} (h1 : Btw 1 g h r) :
    floatToFloatBits .f64 r .f32 = some (nar r) ∧ nar r < 2 ^ 32 ∧ fin single (nar r) = true ∧ g ≤ key single (nar r) ∧ key single (nar r) ≤ h := by
  obtain ⟨a1, a2, a3, a4⟩ := h1
  rw [show ((1 : Nat) : Rat) = 1 from rfl, Rat.one_mul] at a3 a4
  obtain ⟨t, e, w, f, v, l, u⟩ := narrow_fin a1 hh hg a4 a3
  have : nar r = t := by unfold nar; rw [e]; rfl
  rw [this]
  exact ⟨e, w, f, u, l⟩
end Go.Fl
