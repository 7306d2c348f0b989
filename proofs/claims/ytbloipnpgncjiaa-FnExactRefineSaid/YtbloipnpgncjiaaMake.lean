/- Singles that are made of a sign, a whole number and a power of two: Signed, MakeSingle of the reference. -/
import Derived.Test.YtbloipnpgncjiaaMild
import Derived.Test.YtbloipnpgncjiaaNegL
namespace Go.Proofs.Ytbloipnpgncjiaa
open Go.RowKit

/-- a double that is m times 2^k -/
def Dbl (m : Nat) (k : Int) (a : Nat) : Prop := Fl.fin Ieee.double a = true ∧ Fl.kv Ieee.double (Fl.key Ieee.double a) = Fl.mv m k
theorem two64 : floatOfInt .f64 2 = 4611686018427387904 := by decide +kernel
theorem two_spec : Fl.fin Ieee.double 4611686018427387904 = true ∧ Fl.kv Ieee.double (Fl.key Ieee.double 4611686018427387904) = 2 := by
  have h := Fl.int_spec (n := 2) (by decide)
  rw [two64] at h
  exact ⟨h.1, h.2.1⟩
theorem mv_succ (m : Nat) (k : Int) : Fl.mv m (k + 1) = Fl.mv m k * 2 := by unfold Fl.mv; rw [Fl.pw_succ]; grind
theorem dbl_key {m : Nat} {k : Int} (hm : m < 2 ^ 53) (h1 : -1074 ≤ k) (h2 : k ≤ 900) : ∃ a : Int, a.natAbs < Ieee.double.infRung ∧ Fl.kv Ieee.double a = Fl.mv m k := by
  obtain ⟨r, e, hr⟩ := Fl.repr64 hm h1 h2
  refine ⟨(r : Int), by omega, ?_⟩
  unfold Fl.kv
  rw [if_neg (by omega)]
  exact e
theorem dbl_int {m : Nat} (hm : m < 2 ^ 53) : Dbl m 0 (floatOfInt .f64 m) := by
  obtain ⟨h1, h2, _⟩ := Fl.int_spec (n := (m : Int)) (by omega)
  exact ⟨h1, by rw [h2, Fl.mv_nat]; rfl⟩
theorem dbl_mul {m a : Nat} {k : Int} (h : Dbl m k a) (hm : m < 2 ^ 53) (h1 : -1000 ≤ k) (h2 : k ≤ 800) : ∃ r, floatBits .mul .f64 a 4611686018427387904 = some r ∧ Dbl m (k + 1) r := by
  obtain ⟨r, e, v, _, _⟩ := Fl.mul_spec Ieee.double h.1 two_spec.1
  obtain ⟨b, hb, eb⟩ := dbl_key (m := m) (k := k + 1) hm (by omega) (by omega)
  have hk := v.exact Ieee.double hb (by rw [h.2, two_spec.2, eb, mv_succ])
  exact ⟨r, e, Fl.fin_key (by rw [hk]; exact hb), by rw [hk]; exact eb⟩
theorem dbl_div {m a : Nat} {k : Int} (h : Dbl m (k + 1) a) (hm : m < 2 ^ 53) (h1 : -1000 ≤ k) (h2 : k ≤ 800) : ∃ r, floatBits .quo .f64 a 4611686018427387904 = some r ∧ Dbl m k r := by
  have h0 : Fl.key Ieee.double 4611686018427387904 ≠ 0 := by
    intro e
    have := two_spec.2
    rw [e, Fl.kv_zero] at this
    exact absurd this (by decide)
  obtain ⟨r, e, v, _, _⟩ := Fl.div_spec Ieee.double h.1 two_spec.1 h0
  obtain ⟨b, hb, eb⟩ := dbl_key (m := m) (k := k) hm (by omega) (by omega)
  have hk := v.exact Ieee.double hb (by
    rw [h.2, two_spec.2, eb, mv_succ]
    have : Fl.mv m k * 2 / 2 = Fl.mv m k := by rw [Rat.div_def, Rat.mul_assoc, Rat.mul_inv_cancel _ (by decide), Rat.mul_one]
    exact this)
  exact ⟨r, e, Fl.fin_key (by rw [hk]; exact hb), by rw [hk]; exact eb⟩
theorem dbl_nar {m a : Nat} {k : Int} (h : Dbl m k a) (hm : m < 2 ^ 24) (h2 : k ≤ 100) : ∃ r, floatToFloatBits .f64 a .f32 = some r ∧ fin32 r = true := by
  have h3 : Fl.mv m k ≤ Fl.pw 124 := by
    unfold Fl.mv
    have a1 : (m : Rat) ≤ Fl.pw 24 := by
      rw [show Fl.pw 24 = ((2 ^ 24 : Nat) : Rat) from Fl.pw_nat 24]
      exact_mod_cast (by omega : m ≤ 2 ^ 24)
    have a2 : Fl.pw k ≤ Fl.pw 100 := Fl.pw_le h2
    rw [show (124 : Int) = 24 + 100 by decide, Fl.pw_add]
    have b1 := Rat.mul_le_mul_of_nonneg_right a1 (Rat.le_of_lt (Fl.pw_pos k))
    have b2 := Rat.mul_le_mul_of_nonneg_left a2 (Rat.le_of_lt (Fl.pw_pos 24))
    exact Rat.le_trans b1 b2
  obtain ⟨r, e, _, f, _⟩ := Fl.narrow_fin h.1 (g := K 124) (h := 0) (K_lt (by decide)) (by rw [Fl.inf32r]; decide)
    (by rw [h.2, kvK]; exact h3) (by rw [h.2, Fl.kv_zero]; exact Fl.mv_nonneg m k)
  exact ⟨r, e, f⟩
theorem upon_bits {P : Program} {o : Oper} {a : Act} {K : Act → World → Prop} {Q : Exit → Act → World → Prop} {w : World} {op : BinOp} {t : TypeId} {k : FloatKind} {x y r : Nat} (e : floatBits op k x y = some r)
    (h : o.upon P a K Q (.ok (.value (.float k r)) w)) :
    o.upon P a K Q (((binOp op t (.float k x) (.float k y)).run P w).andThen fun v w' => .ok (.value v) w') := by
  rw [run_float_arith w op t k x y r e]
  exact h
theorem upon_nar {P : Program} {o : Oper} {a : Act} {K : Act → World → Prop} {Q : Exit → Act → World → Prop} {src dst : TypeId} {x r : Nat} {w : World} (hs : (P.underlying src).isSome = true) (hd : P.underlying dst = some (.float .f32)) (e : floatToFloatBits .f64 x .f32 = some r)
    (h : o.upon P a K Q (.ok (.value (.float .f32 r)) w)) :
    o.upon P a K Q (((convert src dst (.float .f64 x)).run P w).andThen fun v w' => .ok (.value v) w') := by
  rw [run_convert_float_float w src dst .f64 .f32 x r hs hd e]
  exact h

set_option maxHeartbeats 400000 in
theorem inI_spec (x l h : Int) (w : World) :
    Calls Try.prog 80 #[.int .i64 x, .int .i64 l, .int .i64 h] w fun e w' => e = .returned (.bool (decide (l ≤ x ∧ x ≤ h))) ∧ w' = w := by
  by_cases h1 : l ≤ x
  · go_enter Try.func80, Try.ntmps80
    go_wp2
    go_ret
    exact ⟨by simp [h1], rfl⟩
  · have h2 : x < l := by omega
    go_enter Try.func80, Try.ntmps80
    go_wp2
    go_ret
    exact ⟨by simp; omega, rfl⟩

set_option maxHeartbeats 400000 in
theorem signed_any (s : ByteArray) (hs : s = { data := #[43] } ∨ s = { data := #[45] }) (x : Nat) (hx : fin32 x = true) (w : World) :
    Calls Try.prog 132 #[.string s, .float .f32 x] w fun e w' => ∃ y b, e = .returned (.tuple #[.float .f32 y, .bool b]) ∧ fin32 y = true ∧ w' = w := by
  have HX := hid hx
  clear hx
  rcases hs with rfl | rfl
  · go_enter Try.func132, Try.ntmps132
    go_wp2_with fail
    go_ret2
    exact ⟨_, _, rfl, HX.out, rfl⟩
  · go_enter Try.func132, Try.ntmps132
    go_wp2_with fail
    go_ret2
    exact ⟨_, _, rfl, neg_fin HX.out, rfl⟩

set_option maxRecDepth 20000 in
set_option maxHeartbeats 2000000 in
theorem make_any (s : ByteArray) (hs : s = { data := #[43] } ∨ s = { data := #[45] }) (m : Nat) (hm : m ≤ 16777215) (x : Int) (h1 : -149 ≤ x) (h2 : x ≤ 100) (w : World) :
    Calls Try.prog 124 #[.string s, .int .i64 m, .int .i64 x] w fun e w' => ∃ y b, e = .returned (.tuple #[.float .f32 y, .bool b]) ∧ fin32 y = true ∧ Drew w w' := by
  have hmz : (m : Int) ≤ 16777215 := by omega
  have HM := hid (show m < 2 ^ 24 by omega)
  have HM5 := hid (show m < 2 ^ 53 by omega)
  have D0 := hid (dbl_int HM5.out)
  have i1 := hid (decide_eq_true (show (0 : Int) ≤ (m : Int) ∧ (m : Int) ≤ 16777215 by omega))
  have i2 := hid (decide_eq_true (show (-149 : Int) ≤ x ∧ x ≤ 127 by omega))
  rcases hs with rfl | rfl
  all_goals
    go_enter Try.func124, Try.ntmps124
    go_wp2_with fail
    refine (inI_spec _ _ _ _).mono ?_
    rintro e w1 ⟨rfl, rfl⟩
    rw [i1.out]
    go_wp2_with fail
    refine (inI_spec _ _ _ _).mono ?_
    rintro e w1 ⟨rfl, rfl⟩
    rw [i2.out]
    go_wp2_with fail
    go_loopw [8, 9] (fun d i wr => ∃ (k a : Nat), k ≤ x.toNat ∧ i = .int .i64 k ∧ d = .float .f64 a ∧ Dbl m k a ∧ wr = w1) (fun _ i _ => x.toNat - (intOf i).toNat)
    case atStart => exact ⟨0, _, by omega, rfl, rfl, by simpa using D0.out, rfl⟩
    case round =>
      obtain ⟨k, a, hk, rfl, rfl, hd, rfl⟩ := hrel
      have HD := hid hd
      clear hd
      by_cases hlt : (k : Int) < x
      · obtain ⟨r, e, hd⟩ := dbl_mul HD.out HM5.out (by omega) (by omega)
        have HD2 := hid hd
        have HE := hid e
        clear hd e
        go_wp2_with fail
        refine upon_bits HE.out ?_
        go_wp2_with fail
        go_roundw
        case rel => exact ⟨k + 1, r, by omega, by go_num, rfl, HD2.out, by first | rfl | trivial⟩
        case measure => simp [intOf]; omega
      · have hkx : k = x.toNat := by omega
        go_wp2_with fail
        go_loopw [8, 10] (fun d i w2 => ∃ (q a : Nat), q ≤ (-x).toNat ∧ i = .int .i64 (-(q : Int)) ∧ d = .float .f64 a ∧ Dbl m ((k : Int) - q) a ∧ w2 = wr) (fun _ i _ => (-x).toNat - (-(intOf i)).toNat)
        case atStart => exact ⟨0, a, by omega, rfl, rfl, by simpa using HD.out, rfl⟩
        case round =>
          obtain ⟨q, a, hq, rfl, rfl, hd, rfl⟩ := hrel
          have HD := hid hd
          clear hd
          by_cases hlt2 : x < -(q : Int)
          · obtain ⟨r, e, hd⟩ := dbl_div (m := m) (k := (k : Int) - q - 1) (a := a) (by have := HD.out; rw [show (k : Int) - q - 1 + 1 = (k : Int) - q by omega]; exact this) HM5.out (by omega) (by omega)
            have HD2 := hid hd
            have HE := hid e
            clear hd e
            go_wp2_with fail
            refine upon_bits HE.out ?_
            go_wp2_with fail
            go_roundw
            case rel => exact ⟨q + 1, r, by omega, by go_num, rfl, by rw [show (k : Int) - ((q + 1 : Nat) : Int) = (k : Int) - q - 1 by omega]; exact HD2.out, by first | rfl | trivial⟩
            case measure => simp [intOf]; omega
          · obtain ⟨r, er, hf⟩ := dbl_nar HD.out HM.out (by omega)
            have HF := hid hf
            have HER := hid er
            clear hf er
            go_wp2_with fail
            refine upon_nar some_f64 Try.underlying25 HER.out ?_
            go_wp2_with fail
            refine upon_widen some_f32 Try.underlying51 ?_
            intro r2 n2 hr2
            clear hr2
            rcases Bool.eq_false_or_eq_true (FloatKind.f64.format.order r2 a != some .eq) with hne | hne
            · go_wp2_with fail
              go_ret2
              exact ⟨_, _, rfl, by decide +kernel, n2, rfl⟩
            · go_wp2_with fail
              refine (signed_any _ (by first | exact .inl rfl | exact .inr rfl) r HF.out _).mono ?_
              rintro e w3 ⟨y, b, rfl, hy, rfl⟩
              have HY := hid hy
              clear hy
              go_wp2_with fail
              go_ret2
              exact ⟨_, _, rfl, HY.out, n2, rfl⟩

end Go.Proofs.Ytbloipnpgncjiaa
