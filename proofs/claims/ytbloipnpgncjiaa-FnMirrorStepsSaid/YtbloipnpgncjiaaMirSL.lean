/- The mirrored steps, plain: of a conjugate they come to a number that equals the conjugate. -/
import Derived.Test.YtbloipnpgncjiaaUndo
set_option linter.unusedSimpArgs false
namespace Go.Proofs.Ytbloipnpgncjiaa
open Go.RowKit Ieee Go.Fl

/-! what is finite comes of what is finite -/
theorem not_fin {x : Nat} (h : fin double x = false) : Fl.nan .f64 x = true ∨ ∃ s, double.read x = .infinity s := by
  rcases Fl.kinds double x with k | k | k
  · rw [k] at h; cases h
  · exact .inr ⟨_, Fl.read_inf double (Fl.hb .f64) k⟩
  · exact .inl k
def Big (o : Option Datum) : Prop := o = none ∨ ∃ t, o = some (.infinity t)
theorem big_arith {op : BinOp} {x y : Nat} {o : Option Datum} (h : floatBits op .f64 x y = o.map double.write) (hb : Big o) : fin double (arith .f64 op x y) = false := by
  unfold arith
  rw [h]
  rcases hb with rfl | ⟨t, rfl⟩
  · exact Fl.nan_fin .f64 (Fl.nan_nanC .f64)
  · exact Fl.inf_fin .f64 (Fl.inf64 t)
theorem nan_arith {op : BinOp} {x y : Nat} (h : Fl.nan .f64 x = true ∨ Fl.nan .f64 y = true) : fin double (arith .f64 op x y) = false := by
  unfold arith
  rw [Fl.floatBits_nan .f64 h]
  exact Fl.nan_fin .f64 (Fl.nan_nanC .f64)
theorem sum_inf (s : Bool) (D : Datum) : Big (Datum.sum (.infinity s) D) ∧ Big (Datum.sum D (.infinity s)) := by
  cases D with
  | nan => exact ⟨.inl rfl, .inl rfl⟩
  | infinity t =>
    constructor
    · simp only [Datum.sum]; split <;> first | exact .inr ⟨_, rfl⟩ | exact .inl rfl
    · simp only [Datum.sum]; split <;> first | exact .inr ⟨_, rfl⟩ | exact .inl rfl
  | number => exact ⟨.inr ⟨_, rfl⟩, .inr ⟨_, rfl⟩⟩
theorem prod_inf (s : Bool) (D : Datum) : Big (Datum.product (.infinity s) D) ∧ Big (Datum.product D (.infinity s)) := by
  cases D with
  | nan => exact ⟨.inl rfl, .inl rfl⟩
  | infinity t => exact ⟨.inr ⟨_, rfl⟩, .inr ⟨_, rfl⟩⟩
  | number =>
    constructor
    · simp only [Datum.product]; split <;> first | exact .inr ⟨_, rfl⟩ | exact .inl rfl
    · simp only [Datum.product]; split <;> first | exact .inr ⟨_, rfl⟩ | exact .inl rfl
theorem quo_inf (d : Nat) (s : Bool) (D : Datum) : Big (Datum.quotient d (.infinity s) D) := by
  cases D with
  | nan => exact .inl rfl
  | infinity t => exact .inl rfl
  | number => exact .inr ⟨_, rfl⟩
theorem fin_add {x y : Nat} (h : fin double (arith .f64 .add x y) = true) : fin double x = true ∧ fin double y = true := by
  constructor
  · cases hf : fin double x with
    | true => rfl
    | false =>
      rcases not_fin hf with hn | ⟨s, e⟩
      · rw [nan_arith (.inl hn)] at h; cases h
      · rw [big_arith (o := Datum.sum (double.read x) (double.read y)) rfl (by rw [e]; exact (sum_inf s _).1)] at h; cases h
  · cases hf : fin double y with
    | true => rfl
    | false =>
      rcases not_fin hf with hn | ⟨s, e⟩
      · rw [nan_arith (.inr hn)] at h; cases h
      · rw [big_arith (o := Datum.sum (double.read x) (double.read y)) rfl (by rw [e]; exact (sum_inf s _).2)] at h; cases h
theorem fin_sub {x y : Nat} (h : fin double (arith .f64 .sub x y) = true) : fin double x = true ∧ fin double y = true := by
  constructor
  · cases hf : fin double x with
    | true => rfl
    | false =>
      rcases not_fin hf with hn | ⟨s, e⟩
      · rw [nan_arith (.inl hn)] at h; cases h
      · rw [big_arith (o := Datum.sum (double.read x) (double.read y).opposite) rfl (by rw [e]; exact (sum_inf s _).1)] at h; cases h
  · cases hf : fin double y with
    | true => rfl
    | false =>
      rcases not_fin hf with hn | ⟨s, e⟩
      · rw [nan_arith (.inr hn)] at h; cases h
      · rw [big_arith (o := Datum.sum (double.read x) (double.read y).opposite) rfl (by rw [e]; exact (sum_inf (!s) _).2)] at h; cases h
theorem fin_mul {x y : Nat} (h : fin double (arith .f64 .mul x y) = true) : fin double x = true ∧ fin double y = true := by
  constructor
  · cases hf : fin double x with
    | true => rfl
    | false =>
      rcases not_fin hf with hn | ⟨s, e⟩
      · rw [nan_arith (.inl hn)] at h; cases h
      · rw [big_arith (o := Datum.product (double.read x) (double.read y)) rfl (by rw [e]; exact (prod_inf s _).1)] at h; cases h
  · cases hf : fin double y with
    | true => rfl
    | false =>
      rcases not_fin hf with hn | ⟨s, e⟩
      · rw [nan_arith (.inr hn)] at h; cases h
      · rw [big_arith (o := Datum.product (double.read x) (double.read y)) rfl (by rw [e]; exact (prod_inf s _).2)] at h; cases h
theorem fin_quo {x y : Nat} (h : fin double (arith .f64 .quo x y) = true) : fin double x = true := by
  cases hf : fin double x with
  | true => rfl
  | false =>
    rcases not_fin hf with hn | ⟨s, e⟩
    · rw [nan_arith (.inl hn)] at h; cases h
    · rw [big_arith (o := Datum.quotient (double.fractionBits + 2) (double.read x) (double.read y)) rfl (by rw [e]; exact quo_inf _ s _)] at h; cases h

/-! two numbers of one amount -/
/-- the one or the other sign -/
def Sn (s : Int) : Prop := s = 1 ∨ s = -1
def Rel (s : Int) (x x' : Nat) : Prop := fin double x = true ∧ fin double x' = true ∧ ky64 x' = s * ky64 x
theorem Rel.symm {s : Int} {x x' : Nat} (hs : Sn s) (h : Rel s x x') : Rel s x' x := ⟨h.2.1, h.1, by rcases hs with rfl | rfl <;> have := h.2.2 <;> omega⟩
theorem Rel.neg1 {x : Nat} (h : fin double x = true) : Rel (-1) x (neg64 x) := ⟨h, fin_neg64 h, by rw [show ky64 (neg64 x) = -ky64 x from key_turn .f64 x]; omega⟩
theorem Rel.refl {x : Nat} (h : fin double x = true) : Rel 1 x x := ⟨h, h, by omega⟩
theorem Rel.neg {s : Int} {x x' : Nat} (h : Rel s x x') : Rel s (neg64 x) (neg64 x') := ⟨fin_neg64 h.1, fin_neg64 h.2.1, by
  rw [show ky64 (neg64 x) = -ky64 x from key_turn .f64 x, show ky64 (neg64 x') = -ky64 x' from key_turn .f64 x', h.2.2, Int.mul_neg]⟩
theorem Rel.negl {s : Int} {x x' : Nat} (h : Rel s x x') : Rel (-s) (neg64 x) x' := ⟨fin_neg64 h.1, h.2.1, by
  rw [show ky64 (neg64 x) = -ky64 x from key_turn .f64 x, h.2.2, Int.neg_mul_neg]⟩
theorem Rel.negr {s : Int} {x x' : Nat} (h : Rel s x x') : Rel (-s) x (neg64 x') := ⟨h.1, fin_neg64 h.2.1, by
  rw [show ky64 (neg64 x') = -ky64 x' from key_turn .f64 x', h.2.2, Int.neg_mul]⟩
theorem kv_s {s : Int} (hs : Sn s) (a : Int) : kv double (s * a) = (s : Rat) * kv double a := by
  rcases hs with rfl | rfl
  · rw [Int.one_mul, show ((1 : Int) : Rat) = 1 from rfl, Rat.one_mul]
  · rw [show (-1 : Int) * a = -a by omega, kv_neg, show ((-1 : Int) : Rat) = -1 from rfl]
    grind
theorem rv_s {s : Int} (hs : Sn s) {q q' : Rat} {k k' : Int} (h : RV double q k) (h' : RV double q' k') (e : q' = (s : Rat) * q) : k' = s * k := by
  rcases hs with rfl | rfl
  · rw [Int.one_mul]
    have : q' = q := by rw [e, show ((1 : Int) : Rat) = 1 from rfl, Rat.one_mul]
    subst this; exact h'.same double h
  · have := h.neg double
    have e' : q' = -q := by rw [e, show ((-1 : Int) : Rat) = -1 from rfl]; grind
    subst e'
    have := h'.same double this
    omega
theorem abs_s {s a : Int} (hs : Sn s) : (s * a).natAbs = a.natAbs := by rcases hs with rfl | rfl <;> omega
theorem rel_of {s : Int} (hs : Sn s) {x x' : Nat} (h : ky64 x' = s * ky64 x) (hf : fin double x = true) : Rel s x x' :=
  ⟨hf, fin_key (show (ky64 x').natAbs < _ by rw [h, abs_s hs]; exact key_fin hf), h⟩
theorem rel_add {s : Int} (hs : Sn s) {x x' y y' : Nat} (hx : Rel s x x') (hy : Rel s y y') (hf : fin double (arith .f64 .add x y) = true) : Rel s (arith .f64 .add x y) (arith .f64 .add x' y') := by
  refine rel_of hs ?_ hf
  obtain ⟨r, e, v, _, _⟩ := add_spec double hx.1 hy.1
  obtain ⟨r', e', v', _, _⟩ := add_spec double hx.2.1 hy.2.1
  rw [arith_some (k := .f64) (op := .add) e, arith_some (k := .f64) (op := .add) e']
  refine rv_s hs v v' ?_
  rw [show key double x' = s * key double x from hx.2.2, show key double y' = s * key double y from hy.2.2, kv_s hs, kv_s hs, Rat.mul_add]
theorem rel_sub {s : Int} (hs : Sn s) {x x' y y' : Nat} (hx : Rel s x x') (hy : Rel s y y') (hf : fin double (arith .f64 .sub x y) = true) : Rel s (arith .f64 .sub x y) (arith .f64 .sub x' y') := by
  refine rel_of hs ?_ hf
  obtain ⟨r, e, v, _, _⟩ := sub_spec double hx.1 hy.1
  obtain ⟨r', e', v', _, _⟩ := sub_spec double hx.2.1 hy.2.1
  rw [arith_some (k := .f64) (op := .sub) e, arith_some (k := .f64) (op := .sub) e']
  refine rv_s hs v v' ?_
  rw [show key double x' = s * key double x from hx.2.2, show key double y' = s * key double y from hy.2.2, kv_s hs, kv_s hs]
  grind
theorem sn_mul {s t : Int} (hs : Sn s) (ht : Sn t) : Sn (s * t) := by rcases hs with rfl | rfl <;> rcases ht with rfl | rfl <;> (unfold Sn; omega)
theorem rel_mul {s t : Int} (hs : Sn s) (ht : Sn t) {x x' y y' : Nat} (hx : Rel s x x') (hy : Rel t y y') (hf : fin double (arith .f64 .mul x y) = true) : Rel (s * t) (arith .f64 .mul x y) (arith .f64 .mul x' y') := by
  refine rel_of (sn_mul hs ht) ?_ hf
  obtain ⟨r, e, v, _, _⟩ := mul_spec double hx.1 hy.1
  obtain ⟨r', e', v', _, _⟩ := mul_spec double hx.2.1 hy.2.1
  rw [arith_some (k := .f64) (op := .mul) e, arith_some (k := .f64) (op := .mul) e']
  refine rv_s (sn_mul hs ht) v v' ?_
  rw [show key double x' = s * key double x from hx.2.2, show key double y' = t * key double y from hy.2.2, kv_s hs, kv_s ht, Rat.intCast_mul]
  grind
theorem read_two {x x' : Nat} (h : fin double x = true) (hr : rung double x = rung double x') : ∃ m p, double.read x = .number (neg double x) m p ∧ double.read x' = .number (neg double x') m p ∧ (m = 0 ↔ key double x = 0) := by
  obtain ⟨m, p, e, _, _, hz⟩ := read_val double h
  refine ⟨m, p, e, ?_, hz⟩
  have h : rung double x < double.infRung := by simpa [fin] using h
  have h' : rung double x' < double.infRung := by rw [← hr]; exact h
  unfold Format.read at e ⊢
  simp only [] at e ⊢
  by_cases hb : rung double x < double.binade
  · rw [if_pos (by unfold rung at hb; exact hb)] at e
    rw [if_pos (by rw [hr] at hb; unfold rung at hb; exact hb)]
    have : x' % double.signWeight = x % double.signWeight := hr.symm
    rw [this]
    injection e with e1 e2 e3
    rw [e2, e3]; rfl
  · rw [if_neg (by unfold rung at hb; exact hb), if_pos (by unfold rung at h; exact h)] at e
    rw [if_neg (by rw [hr] at hb; unfold rung at hb; exact hb), if_pos (by unfold rung at h'; exact h')]
    have : x' % double.signWeight = x % double.signWeight := hr.symm
    rw [this]
    injection e with e1 e2 e3
    rw [e2, e3]; rfl
theorem key_rung (x : Nat) : (key double x).natAbs = rung double x := by unfold key; split <;> simp
theorem rel_rung {s : Int} (hs : Sn s) {x x' : Nat} (h : Rel s x x') : rung double x = rung double x' := by
  have a := key_rung x
  have b := key_rung x'
  rw [show key double x' = s * key double x from h.2.2, abs_s hs] at b
  omega
theorem sign_s {s : Int} (hs : Sn s) {x x' : Nat} (h : Rel s x x') (h0 : ky64 x ≠ 0) : neg double x' = (neg double x ^^ decide (s = -1)) := by
  have hr := rel_rung hs h
  have hk : key double x' = s * key double x := h.2.2
  have h0' : key double x ≠ 0 := h0
  unfold key at hk h0'
  rw [← hr] at hk
  cases h1 : neg double x' <;> cases h2 : neg double x <;> rw [h1, h2] at hk <;> rw [h2] at h0' <;> simp only [if_true, if_false, Bool.false_eq_true] at hk h0' <;> rcases hs with rfl | rfl <;> first | rfl | (exfalso; omega)
theorem rel_quo {s t : Int} (hs : Sn s) (ht : Sn t) {x x' y y' : Nat} (hx : Rel s x x') (hy : Rel t y y') (h0 : ky64 y ≠ 0) (hf : fin double (arith .f64 .quo x y) = true) : Rel (s * t) (arith .f64 .quo x y) (arith .f64 .quo x' y') := by
  refine rel_of (sn_mul hs ht) ?_ hf
  obtain ⟨m, i, e1, e1', z1⟩ := read_two hx.1 (rel_rung hs hx)
  obtain ⟨n, j, e2, e2', z2⟩ := read_two hy.1 (rel_rung ht hy)
  have hn : n ≠ 0 := fun h => h0 (z2.1 h)
  have q1 : floatBits .quo .f64 x y = some (double.word (neg double x ^^ neg double y) (rnd double (2 * ((m <<< (double.fractionBits + 2 + n.log2 - m.log2)) / n) + ((m <<< (double.fractionBits + 2 + n.log2 - m.log2)) % n != 0).toNat) (i - j - (double.fractionBits + 2 + n.log2 - m.log2 : Nat) - 1))) := by
    show double.div x y = _
    unfold Format.div; rw [e1, e2]; simp only [Datum.quotient, hn, if_false, Option.map_some, write_num]
  have q2 : floatBits .quo .f64 x' y' = some (double.word (neg double x' ^^ neg double y') (rnd double (2 * ((m <<< (double.fractionBits + 2 + n.log2 - m.log2)) / n) + ((m <<< (double.fractionBits + 2 + n.log2 - m.log2)) % n != 0).toNat) (i - j - (double.fractionBits + 2 + n.log2 - m.log2 : Nat) - 1))) := by
    show double.div x' y' = _
    unfold Format.div; rw [e1', e2']; simp only [Datum.quotient, hn, if_false, Option.map_some, write_num]
  rw [arith_some q1, arith_some q2]
  show key double _ = s * t * key double _
  rw [word_key, word_key, sign_s ht hy h0]
  by_cases hz : ky64 x = 0
  · have hm := z1.2 hz
    subst hm
    have hv : (2 * ((0 <<< (double.fractionBits + 2 + n.log2 - Nat.log2 0)) / n) + ((0 <<< (double.fractionBits + 2 + n.log2 - Nat.log2 0)) % n != 0).toNat) = 0 := by simp
    rw [hv]
    unfold sk rnd
    rw [if_pos rfl]
    simp
  · rw [sign_s hs hx hz]
    unfold sk
    rcases hs with rfl | rfl <;> rcases ht with rfl | rfl <;> cases neg double x <;> cases neg double y <;> simp

/-! the denominator -/
theorem bound_fin {q : Rat} {k : Int} (h : RV double q k) {j : Nat} (hj : j ≤ 800) (h1 : -pw j ≤ q) (h2 : q ≤ pw j) : k.natAbs < double.infRung ∧ -pw j ≤ kv double k ∧ kv double k ≤ pw j := by
  obtain ⟨r, e1, e2⟩ := repr64 (m := 1) (p := (j : Int)) (by decide) (by omega) (by omega)
  have er : kv double (r : Int) = pw j := by
    unfold kv
    rw [if_neg (by omega)]
    show V double r = _
    rw [e1]; unfold mv; rw [show ((1 : Nat) : Rat) = 1 from rfl, Rat.one_mul]
  have k1 : k ≤ (r : Int) := h.le_of double (by omega) (by rw [er]; exact h2)
  have k2 : -(r : Int) ≤ k := h.ge_of double (by omega) (by rw [kv_neg, er]; exact h1)
  refine ⟨by omega, ?_, ?_⟩
  · rw [← er, ← kv_neg]; exact kv_le double k2
  · rw [← er]; exact kv_le double k1
theorem key_one : key double oneW = 4607182418800017408 := by decide +kernel
theorem den_pos {c d : Nat} (hc : Prt c) (hd : Prt d) (h0 : 0 < ky64 c) (hle : (ky64 d).natAbs ≤ (ky64 c).natAbs) :
    fin double (arith .f64 .quo d c) = true ∧ fin double (arith .f64 .mul (arith .f64 .quo d c) d) = true ∧ fin double (arith .f64 .add c (arith .f64 .mul (arith .f64 .quo d c) d)) = true ∧ 0 < ky64 (arith .f64 .add c (arith .f64 .mul (arith .f64 .quo d c) d)) := by
  obtain ⟨_, fc, lc, uc⟩ := hc
  obtain ⟨_, fd, ld, ud⟩ := hd
  have hkc : key double c ≠ 0 := by have : 0 < key double c := h0; omega
  obtain ⟨r, er, vr, _, _⟩ := div_spec double fd fc hkc
  have er' : arith .f64 .quo d c = r := arith_some (k := .f64) (op := .quo) er
  rw [er']
  have vc : 0 < kv double (key double c) := by rw [← kv_zero double]; exact kv_mono double h0
  have h1 : kv double (key double d) ≤ kv double (key double c) := kv_le double (by show ky64 d ≤ ky64 c; omega)
  have h2 : -kv double (key double c) ≤ kv double (key double d) := by rw [← kv_neg]; exact kv_le double (by show -ky64 c ≤ ky64 d; omega)
  have qle : kv double (key double d) / kv double (key double c) ≤ 1 := div_le vc (by rw [Rat.one_mul]; exact h1)
  have qge : -1 ≤ kv double (key double d) / kv double (key double c) := le_div vc (by grind)
  have o1 := one_spec.2
  have b1 := (vr (key double oneW) (by rw [key_one, inf64r]; omega)).1 (by rw [o1]; exact qle)
  have b2 := (vr (-key double oneW) (by rw [key_one, inf64r]; omega)).2 (by rw [kv_neg, o1]; exact qge)
  rw [key_one] at b1 b2
  have fr : fin double r = true := fin_key (by rw [inf64r]; omega)
  have kr1 : kv double (key double r) ≤ 1 := by rw [← o1, key_one]; exact kv_le double b1
  have kr2 : -1 ≤ kv double (key double r) := by rw [← o1, key_one, ← kv_neg]; exact kv_le double b2
  obtain ⟨p, ep, vp, _, _⟩ := mul_spec double fr fd
  have ep' : arith .f64 .mul r d = p := arith_some (k := .f64) (op := .mul) ep
  rw [ep']
  have z0 : kv double 0 = 0 := kv_zero double
  -- the product is not below 0
  have hp0 : 0 ≤ kv double (key double r) * kv double (key double d) := by
    by_cases hd0 : 0 ≤ key double d
    · have d0 : 0 ≤ kv double (key double d) := by rw [← z0]; exact kv_le double hd0
      have q0 : 0 ≤ kv double (key double d) / kv double (key double c) := le_div vc (by grind)
      have := (vr 0 (by rw [inf64r]; omega)).2 (by rw [z0]; exact q0)
      have r0 : 0 ≤ kv double (key double r) := by rw [← z0]; exact kv_le double this
      exact Rat.mul_nonneg r0 d0
    · have d0 : kv double (key double d) ≤ 0 := by rw [← z0]; exact kv_le double (by omega)
      have q0 : kv double (key double d) / kv double (key double c) ≤ 0 := div_le vc (by grind)
      have := (vr 0 (by rw [inf64r]; omega)).1 (by rw [z0]; exact q0)
      have r0 : kv double (key double r) ≤ 0 := by rw [← z0]; exact kv_le double this
      have : 0 ≤ (-kv double (key double r)) * (-kv double (key double d)) := Rat.mul_nonneg (by grind) (by grind)
      grind
  have lc' : kv double (key double c) ≤ pw 700 := uc
  have ld' : -pw 700 ≤ kv double (key double d) := ld
  have ud' : kv double (key double d) ≤ pw 700 := ud
  have pw0 : 0 ≤ pw 700 := Rat.le_of_lt (pw_pos 700)
  have hp1 : kv double (key double r) * kv double (key double d) ≤ pw 700 := by
    have a1 : 0 ≤ (1 - kv double (key double r)) * (pw 700 + kv double (key double d)) := Rat.mul_nonneg (by grind) (by grind)
    have a2 : 0 ≤ (1 + kv double (key double r)) * (pw 700 - kv double (key double d)) := Rat.mul_nonneg (by grind) (by grind)
    grind
  obtain ⟨fp1, fp2, fp3⟩ := bound_fin vp (j := 700) (by decide) (by grind) hp1
  have fp : fin double p = true := fin_key fp1
  have p0 : 0 ≤ key double p := vp.ge_of double (a := 0) (by rw [inf64r]; omega) (by rw [z0]; exact hp0)
  have kp0 : 0 ≤ kv double (key double p) := by rw [← z0]; exact kv_le double p0
  obtain ⟨t, et, vt, _, _⟩ := add_spec double fc fp
  have et' : arith .f64 .add c p = t := arith_some (k := .f64) (op := .add) et
  rw [et']
  have e701 : pw 701 = pw 700 + pw 700 := by rw [show (701 : Int) = 700 + 1 from rfl, pw_succ]; grind
  obtain ⟨ft1, _, _⟩ := bound_fin vt (j := 701) (by decide) (by
      have : (pw ((701 : Nat) : Int)) = pw 700 + pw 700 := e701
      rw [this]; grind) (by
      have : (pw ((701 : Nat) : Int)) = pw 700 + pw 700 := e701
      rw [this]
      have fp3' : kv double (key double p) ≤ pw 700 := fp3
      grind)
  have t0 : key double c ≤ key double t := vt.ge_of double (a := key double c) (key_fin fc) (by grind)
  exact ⟨fr, fp, fin_key ft1, by have : 0 < key double c := h0; show 0 < key double t; omega⟩
end Go.Proofs.Ytbloipnpgncjiaa
