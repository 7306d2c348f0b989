/- A complex single by 1: RatioSingle, Equal, IsFinite of the program at numbers that are finite, and at others. -/
import Derived.Test.YtbloipnpgncjiaaQuad
import Derived.Test.YtbloipnpgncjiaaStp
import Derived.Test.YtbloipnpgncjiaaOne
import Derived.Test.YtbloipnpgncjiaaQuoL
namespace Go.Proofs.Ytbloipnpgncjiaa
open Go.RowKit Ieee

abbrev oneS : Nat := 1065353216
theorem kv_zero64 : Fl.key double 0 = 0 := by decide +kernel
theorem fin_zero64 : Fl.fin double 0 = true := by decide +kernel
theorem mul_nil {b : Nat} (hb : Fl.fin double b = true) : Fl.key double (Fl.arith .f64 .mul b 0) = 0 ∧ Fl.fin double (Fl.arith .f64 .mul b 0) = true := by
  obtain ⟨t, e, v, _, _⟩ := Fl.mul_spec double hb fin_zero64
  have k : Fl.key double t = 0 := v.exact double (a := 0) (by decide +kernel) (by rw [kv_zero64, Fl.kv_zero, Rat.mul_zero])
  have et : Fl.arith .f64 .mul b 0 = t := Fl.arith_some (k := .f64) (op := .mul) e
  rw [et]
  exact ⟨k, Fl.fin_key (by rw [k]; decide +kernel)⟩
theorem add_nil {a t : Nat} (ha : Fl.fin double a = true) (ht : Fl.fin double t = true) (h0 : Fl.key double t = 0) : Fl.key double (Fl.arith .f64 .add a t) = Fl.key double a ∧ Fl.fin double (Fl.arith .f64 .add a t) = true := by
  obtain ⟨r, e, v, _, _⟩ := Fl.add_spec double ha ht
  have k : Fl.key double r = Fl.key double a := v.exact double (Fl.key_fin ha) (by rw [h0, Fl.kv_zero, Rat.add_zero])
  have et : Fl.arith .f64 .add a t = r := Fl.arith_some (k := .f64) (op := .add) e
  rw [et]
  exact ⟨k, Fl.fin_key (by rw [k]; exact Fl.key_fin ha)⟩
theorem sub_nil {a t : Nat} (ha : Fl.fin double a = true) (ht : Fl.fin double t = true) (h0 : Fl.key double t = 0) : Fl.key double (Fl.arith .f64 .sub a t) = Fl.key double a ∧ Fl.fin double (Fl.arith .f64 .sub a t) = true := by
  obtain ⟨r, e, v, _, _⟩ := Fl.sub_spec double ha ht
  have k : Fl.key double r = Fl.key double a := v.exact double (Fl.key_fin ha) (by rw [h0, Fl.kv_zero]; grind)
  have et : Fl.arith .f64 .sub a t = r := Fl.arith_some (k := .f64) (op := .sub) e
  rw [et]
  exact ⟨k, Fl.fin_key (by rw [k]; exact Fl.key_fin ha)⟩
theorem quo_one {a : Nat} (ha : Fl.fin double a = true) : Fl.key double (Fl.arith .f64 .quo a oneW) = Fl.key double a ∧ Fl.fin double (Fl.arith .f64 .quo a oneW) = true ∧ Fl.arith .f64 .quo a oneW < 2 ^ 64 := by
  obtain ⟨r, e, v, _, w⟩ := Fl.div_spec double ha one_spec.1 (by decide +kernel)
  have k : Fl.key double r = Fl.key double a := v.exact double (Fl.key_fin ha) (by rw [one_spec.2]; grind)
  have et : Fl.arith .f64 .quo a oneW = r := Fl.arith_some (k := .f64) (op := .quo) e
  rw [et]
  exact ⟨k, Fl.fin_key (by rw [k]; exact Fl.key_fin ha), w⟩
/-- by 1 -/
theorem quo_by1 {a b : Nat} (ha : Fl.fin double a = true) (hb : Fl.fin double b = true) :
    (Fl.fin double (quoV a b oneW 0).1 = true ∧ Fl.key double (quoV a b oneW 0).1 = Fl.key double a ∧ (quoV a b oneW 0).1 < 2 ^ 64) ∧
    (Fl.fin double (quoV a b oneW 0).2 = true ∧ Fl.key double (quoV a b oneW 0).2 = Fl.key double b ∧ (quoV a b oneW 0).2 < 2 ^ 64) := by
  have e : quoV a b oneW 0 = (Fl.arith .f64 .quo (Fl.arith .f64 .add a (Fl.arith .f64 .mul b 0)) oneW, Fl.arith .f64 .quo (Fl.arith .f64 .sub b (Fl.arith .f64 .mul a 0)) oneW) := by
    unfold quoV
    rw [if_pos (show absGe oneW 0 = true by decide +kernel)]
    simp only [show Fl.arith .f64 .quo 0 oneW = 0 by decide +kernel, show Fl.arith .f64 .mul 0 0 = 0 by decide +kernel, show Fl.arith .f64 .add oneW 0 = oneW by decide +kernel]
  rw [e]
  have m1 := mul_nil hb
  have m2 := mul_nil ha
  have a1 := add_nil ha m1.2 m1.1
  have a2 := sub_nil hb m2.2 m2.1
  have q1 := quo_one a1.2
  have q2 := quo_one a2.2
  exact ⟨⟨q1.2.1, q1.1.trans a1.1, q1.2.2⟩, ⟨q2.2.1, q2.1.trans a2.1, q2.2.2⟩⟩
def rat1 (z : Nat × Nat) : Nat × Nat := (Fl.nar (quoV (Fl.wid z.1) (Fl.wid z.2) oneW 0).1, Fl.nar (quoV (Fl.wid z.1) (Fl.wid z.2) oneW 0).2)
/-- a finite complex single -/
def zf (z : Nat × Nat) : Bool := Fl.fin single z.1 && Fl.fin single z.2
theorem zf_iff {z : Nat × Nat} : zf z = true ↔ Fl.fin single z.1 = true ∧ Fl.fin single z.2 = true := by unfold zf; rw [Bool.and_eq_true]
theorem wid_fin {x : Nat} (h : Fl.fin single x = true) : floatToFloatBits .f32 x .f64 = some (Fl.wid x) ∧ Fl.fin double (Fl.wid x) = true ∧ Fl.kv double (Fl.key double (Fl.wid x)) = Fl.kv single (Fl.key single x) ∧ Fl.wid x < 2 ^ 64 := by
  obtain ⟨r, e, f, v, _, w⟩ := Fl.widen_fin h
  have : Fl.wid x = r := by unfold Fl.wid; rw [e]; rfl
  rw [this]
  exact ⟨e, f, v, w⟩
theorem nar_back {x r : Nat} (hx : Fl.fin single x = true) (hr : Fl.fin double r = true) (hk : Fl.key double r = Fl.key double (Fl.wid x)) :
    floatToFloatBits .f64 r .f32 = some (Fl.nar r) ∧ Fl.fin single (Fl.nar r) = true ∧ Fl.key single (Fl.nar r) = Fl.key single x := by
  have kx := Fl.key_fin hx
  have e : Fl.kv double (Fl.key double r) = Fl.kv single (Fl.key single x) := by rw [hk]; exact (wid_fin hx).2.2.1
  obtain ⟨s, ex, wx, fx, _, l1, l2⟩ := Fl.narrow_fin hr kx kx (by rw [e]; exact Rat.le_refl) (by rw [e]; exact Rat.le_refl)
  have : Fl.nar r = s := by unfold Fl.nar; rw [ex]; rfl
  rw [this]
  exact ⟨ex, fx, Int.le_antisymm l1 l2⟩
theorem rat1_spec {z : Nat × Nat} (h : zf z = true) :
    (floatToFloatBits .f64 (quoV (Fl.wid z.1) (Fl.wid z.2) oneW 0).1 .f32 = some (rat1 z).1 ∧ Fl.fin single (rat1 z).1 = true ∧ Fl.key single (rat1 z).1 = Fl.key single z.1) ∧
    (floatToFloatBits .f64 (quoV (Fl.wid z.1) (Fl.wid z.2) oneW 0).2 .f32 = some (rat1 z).2 ∧ Fl.fin single (rat1 z).2 = true ∧ Fl.key single (rat1 z).2 = Fl.key single z.2) := by
  obtain ⟨h1, h2⟩ := zf_iff.1 h
  obtain ⟨q1, q2⟩ := quo_by1 (wid_fin h1).2.1 (wid_fin h2).2.1
  exact ⟨nar_back h1 q1.1 q1.2.1, nar_back h2 q2.1 q2.2.1⟩
theorem cl_fin {a x : Nat} (h : Cl a (cls x)) : finB a = Fl.fin single x := by
  unfold cls at h
  show Fl.fin double a = _
  rcases Fl.kinds single x with k | k | k
  · rw [Fl.fin_nan .f32 (show Fl.fin single x = true from k)] at h
    obtain ⟨_, _, h⟩ := h
    rcases h with ⟨f, _⟩ | ⟨i, e⟩
    · rw [f]; exact k.symm
    · exfalso
      have := Fl.key_fin k
      split at e <;> omega
  · have hn : Fl.nan .f32 x = false := Fl.inf_nan .f32 (show Fl.isI single x = true from k)
    rw [hn] at h
    have hr : Fl.rung single x = single.infRung := by simpa [Fl.isI] using k
    have hk : (Fl.key single x).natAbs = single.infRung := by
      unfold Fl.key; rw [hr]; split <;> omega
    have hf : Fl.fin single x = false := by
      unfold Fl.fin; rw [hr]; simp
    obtain ⟨_, _, h⟩ := h
    rcases h with ⟨_, hv, _⟩ | ⟨i, e⟩
    · exfalso; omega
    · rw [hf]
      have hra : Fl.rung double a = double.infRung := by simpa [Fl.isI] using i
      unfold Fl.fin; rw [hra]; simp
  · have hn : Fl.nan .f32 x = true := k
    rw [hn] at h
    have hf : Fl.fin single x = false := by
      cases hf : Fl.fin single x with
      | false => rfl
      | true => rw [Fl.fin_nan .f32 (show Fl.fin single x = true from hf)] at hn; cases hn
    rw [hf]
    cases hd : Fl.fin double a with
    | false => rfl
    | true =>
      have := Fl.fin_nan .f64 (show Fl.fin double a = true from hd)
      rw [h.2] at this; cases this

section
variable {P : Program} {o : Oper} {act : Act} {K : Act → World → Prop} {Q : Exit → Act → World → Prop} {w : World}
theorem upon_cwidF {src dst : TypeId} {x y : Nat} (hx : Fl.fin single x = true) (hy : Fl.fin single y = true) (hs : (P.underlying src).isSome = true) (hd : P.underlying dst = some (.complex .f64))
    (h : o.upon P act K Q (.ok (.value (.complex .f64 (Fl.wid x) (Fl.wid y))) w)) :
    o.upon P act K Q (((convert src dst (.complex .f32 x y)).run P w).andThen fun v w' => .ok (.value v) w') := by
  have e1 := run_floatToFloat (P := P) w (wid_fin hx).1
  have e2 := run_floatToFloat (P := P) w (wid_fin hy).1
  obtain ⟨u, hs'⟩ := Option.isSome_iff_exists.1 hs
  have e : (convert src dst (.complex .f32 x y)).run P w = .ok (.complex .f64 (Fl.wid x) (Fl.wid y)) w := by
    cases u <;> simp [convert, run_underlying hs', run_underlying hd, Conv.complexToComplex, e1, e2]
  rw [e]
  exact h
theorem upon_cnarF {src dst : TypeId} {x y r i : Nat} (hx : floatToFloatBits .f64 x .f32 = some r) (hy : floatToFloatBits .f64 y .f32 = some i) (hs : (P.underlying src).isSome = true) (hd : P.underlying dst = some (.complex .f32))
    (h : o.upon P act K Q (.ok (.value (.complex .f32 r i)) w)) :
    o.upon P act K Q (((convert src dst (.complex .f64 x y)).run P w).andThen fun v w' => .ok (.value v) w') := by
  have e1 := run_floatToFloat (P := P) w hx
  have e2 := run_floatToFloat (P := P) w hy
  obtain ⟨u, hs'⟩ := Option.isSome_iff_exists.1 hs
  have e : (convert src dst (.complex .f64 x y)).run P w = .ok (.complex .f32 r i) w := by
    cases u <;> simp [convert, run_underlying hs', run_underlying hd, Conv.complexToComplex, e1, e2]
  rw [e]
  exact h
end
theorem fin_oneS : Fl.fin single oneS = true := by decide +kernel
theorem fin_zero32 : Fl.fin single 0 = true := by decide +kernel
theorem wid_one : Fl.wid oneS = oneW := by decide +kernel
theorem wid_zero : Fl.wid 0 = 0 := by decide +kernel
theorem fin_oneW : finB oneW = true := by decide +kernel
theorem fin_zeroW : finB 0 = true := by decide +kernel

set_option maxRecDepth 20000 in
set_option maxHeartbeats 1000000 in
theorem ratio_any (z : Nat × Nat) (hz : zf z = true) (w : World) :
    Calls Try.prog 91 #[.complex .f32 z.1 z.2, .complex .f32 oneS 0] w fun e w' => e = .returned (.tuple #[.complex .f32 (rat1 z).1 (rat1 z).2, .bool true]) ∧ ∃ m, w' = w.drewN m := by
  obtain ⟨h1, h2⟩ := zf_iff.1 hz
  have H1 := hid (wid_fin h1)
  have H2 := hid (wid_fin h2)
  have HF1 := hid h1
  have HF2 := hid h2
  have HR := hid (rat1_spec hz)
  have HQ := hid (quo_by1 H1.out.2.1 H2.out.2.1)
  have o1 : (FloatKind.f32.format.order oneS 0 == some .eq) = false := by decide +kernel
  have O64 := hid (show (FloatKind.f64.format.order oneW 0 == some .eq && FloatKind.f64.format.order 0 0 == some .eq) = false by decide +kernel)
  clear h1 h2 hz
  go_enter Try.func91, Try.ntmps91
  go_wp2_with fail
  refine upon_cwidF HF1.out HF2.out some_c64 Try.underlying59 ?_
  go_wp2_with fail
  refine (isfin_any _ _ H1.out.2.2.2 H2.out.2.2.2 _).mono ?_
  rintro e w1 ⟨rfl, rfl⟩
  rw [show finB (Fl.wid z.1) = true from H1.out.2.1, show finB (Fl.wid z.2) = true from H2.out.2.1]
  go_wp2_with fail
  refine upon_cwidF fin_oneS fin_zero32 some_c64 Try.underlying59 ?_
  rw [wid_one, wid_zero]
  go_wp2_with fail
  refine (isfin_any _ _ (by decide) (by decide) _).mono ?_
  rintro e w2 ⟨rfl, rfl⟩
  rw [fin_oneW, fin_zeroW]
  go_wp2_with fail
  refine upon_cwidF HF1.out HF2.out some_c64 Try.underlying59 ?_
  go_wp2_with fail
  refine upon_cwidF fin_oneS fin_zero32 some_c64 Try.underlying59 ?_
  rw [wid_one, wid_zero]
  go_wp2_with fail
  refine upon_cquo H1.out.2.1 H2.out.2.1 (show Fl.fin double oneW = true by decide +kernel) fin_zero64 O64.out ?_
  intro e f n he hf _ _
  have ee : e = (quoV (Fl.wid z.1) (Fl.wid z.2) oneW 0).1 := (he.symm.eq _ (Fl.fin_nan .f64 (show Fl.fin double _ = true from HQ.out.1.1))).symm
  have ef : f = (quoV (Fl.wid z.1) (Fl.wid z.2) oneW 0).2 := (hf.symm.eq _ (Fl.fin_nan .f64 (show Fl.fin double _ = true from HQ.out.2.1))).symm
  subst ee
  subst ef
  clear he hf
  go_wp2_with fail
  refine upon_cnarF HR.out.1.1 HR.out.2.1 some_c128 Try.underlying57 ?_
  go_wp2_with fail
  refine upon_cwidF HR.out.1.2.1 HR.out.2.2.1 some_c64 Try.underlying59 ?_
  go_wp2_with fail
  refine (isfin_any _ _ (wid_fin HR.out.1.2.1).2.2.2 (wid_fin HR.out.2.2.1).2.2.2 _).mono ?_
  rintro e w2 ⟨rfl, rfl⟩
  rw [show finB (Fl.wid (rat1 z).1) = true from (wid_fin HR.out.1.2.1).2.1, show finB (Fl.wid (rat1 z).2) = true from (wid_fin HR.out.2.2.1).2.1]
  go_wp2_with fail
  go_ret2
  exact ⟨rfl, n, rfl⟩

set_option maxRecDepth 20000 in
set_option maxHeartbeats 1000000 in
theorem ratio_bad (z : Nat × Nat) (hz : zf z = false) (w : World) :
    Calls Try.prog 91 #[.complex .f32 z.1 z.2, .complex .f32 oneS 0] w fun e w' => e = .returned (.tuple #[.complex .f32 0 0, .bool false]) ∧ ∃ m, w' = w.drewN m := by
  have HZ := hid hz
  clear hz
  go_enter Try.func91, Try.ntmps91
  go_wp2_with fail
  refine upon_cwid some_c64 Try.underlying59 ?_
  intro r i n hr hi
  have HR := hid hr
  have HI := hid hi
  clear hr hi
  go_wp2_with fail
  refine (isfin_any r i HR.out.wf HI.out.wf _).mono ?_
  rintro e w1 ⟨rfl, rfl⟩
  rw [cl_fin HR.out, cl_fin HI.out, show (Fl.fin single z.1 && Fl.fin single z.2) = false from HZ.out]
  go_wp2_with fail
  go_ret2
  exact ⟨rfl, n, rfl⟩

set_option maxHeartbeats 400000 in
theorem equal_any (x y x' y' : Nat) (h1 : (FloatKind.f32.format.order x x' == some .eq) = true) (h2 : (FloatKind.f32.format.order y y' == some .eq) = true) (w : World) :
    Calls Try.prog 92 #[.complex .f32 x y, .complex .f32 x' y'] w fun e w' => e = .returned (.bool true) ∧ w' = w := by
  go_enter Try.func92, Try.ntmps92
  go_wp2_with fail
  go_ret
  exact ⟨rfl, rfl⟩
theorem same_key {x y : Nat} (hx : Fl.fin single x = true) (hy : Fl.fin single y = true) (h : Fl.key single x = Fl.key single y) : (FloatKind.f32.format.order x y == some .eq) = true := by
  have o := Fl.order_ky .f32 (Fl.fin_nan .f32 (show Fl.fin single x = true from hx)) (Fl.fin_nan .f32 (show Fl.fin single y = true from hy))
  have e : Fl.ky .f32 x = Fl.ky .f32 y := h
  rw [o, e, show compare (Fl.ky .f32 y) (Fl.ky .f32 y) = .eq by simp]
  rfl
theorem rat1_same {z : Nat × Nat} (h : zf z = true) : (FloatKind.f32.format.order (rat1 z).1 z.1 == some .eq) = true ∧ (FloatKind.f32.format.order (rat1 z).2 z.2 == some .eq) = true := by
  obtain ⟨h1, h2⟩ := zf_iff.1 h
  obtain ⟨a, b⟩ := rat1_spec h
  exact ⟨same_key a.2.1 h1 a.2.2, same_key b.2.1 h2 b.2.2⟩
end Go.Proofs.Ytbloipnpgncjiaa
