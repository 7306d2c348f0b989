/- Elements that are all alike: their mean, middle one, spread, drift and count. Plain laws. -/
import Derived.Test.YtgenphbackbepaaMidSp
import Derived.Test.YtgenphbackbepaaMildL
import Derived.Test.YtgenphbackbepaaMean
import Derived.Test.YtgenphbackbepaaDrift
import Derived.Test.YtgenphbackbepaaCountLaw
namespace Go.Proofs.Ytgenphbackbepaa
open Go.RowKit Ieee Go.Fl

theorem inf00 : (0 : Int).natAbs < double.infRung := by rw [inf64r]; decide
theorem kv_key0 {r : Nat} (h : kv double (key double r) = 0) : key double r = 0 := kv_inj double (by rw [h, kv_zero])
/-- a whole multiple of a single is a double -/
theorem scaledI (c : Int) (hc : c.natAbs < 2 ^ 29) {g : Int} (hg : g.natAbs < single.infRung) : ∃ G : Int, G.natAbs < double.infRung ∧ kv double G = (c : Rat) * kv single g := by
  obtain ⟨G, h1, h2⟩ := scaled c.natAbs hc hg
  by_cases h : 0 ≤ c
  · refine ⟨G, h1, ?_⟩
    rw [h2]
    congr 1
    have : ((c.natAbs : Int) : Rat) = (c : Rat) := by rw [show ((c.natAbs : Nat) : Int) = c by omega]
    exact this
  · refine ⟨-G, by omega, ?_⟩
    rw [kv_neg, h2]
    have : ((c.natAbs : Int) : Rat) = -(c : Rat) := by rw [show ((c.natAbs : Nat) : Int) = -c by omega, Rat.intCast_neg]
    have e : ((c.natAbs : Nat) : Rat) = -(c : Rat) := this
    rw [e]; grind
theorem rv_mult {q : Rat} {k c g : Int} (h : RV double q k) (hc : c.natAbs < 2 ^ 29) (hg : g.natAbs < single.infRung) (e : q = (c : Rat) * kv single g) : k.natAbs < double.infRung ∧ kv double k = (c : Rat) * kv single g := by
  obtain ⟨G, h1, h2⟩ := scaledI c hc hg
  have := h.exact double h1 (by rw [e, h2])
  rw [this]; exact ⟨h1, h2⟩
theorem drift_cst {x n : Nat} (hx : fin32 x = true) (h9 : n ≤ 9) : ∀ k, k ≤ n → fin double (driftN (List.replicate n x) k) = true ∧ kv double (key double (driftN (List.replicate n x) k)) = (((k : Int) * ((k : Int) - n) : Int) : Rat) * kv single (key single x)
  | 0, _ => by
    refine ⟨by show fin double 0 = true; decide +kernel, ?_⟩
    show kv double (key double 0) = _
    rw [show key double 0 = 0 from by decide +kernel, kv_zero]
    simp
  | k + 1, hk => by
    obtain ⟨f, v⟩ := drift_cst hx h9 k (by omega)
    have hg := key_fin (f := single) hx
    have hgx : (List.replicate n x).getD k 0 = x := by simp [List.getD, show k < n by omega]
    rw [show driftN (List.replicate n x) (k + 1) = arith .f64 .add (driftN (List.replicate n x) k) (driftT (List.replicate n x).length k ((List.replicate n x).getD k 0)) from rfl, hgx, List.length_replicate]
    have hwf : fin double (wid x) = true := by rw [wid_fin]; exact hx
    obtain ⟨i1, i2, _⟩ := int_spec (n := 2 * (k : Int) - ((n : Int) - 1)) (by omega)
    obtain ⟨t, et, vt, _, _⟩ := mul_spec double i1 hwf
    rw [i2, wid_kv hx] at vt
    obtain ⟨t1, t2⟩ := rv_mult vt (by omega) hg rfl
    have eT : driftT n k x = t := arith_some (k := .f64) (op := .mul) et
    rw [eT]
    have ft : fin double t = true := fin_key t1
    obtain ⟨s, es, vs, _, _⟩ := add_spec double f ft
    rw [v, t2] at vs
    have hc : ((k : Int) * ((k : Int) - n)) + (2 * (k : Int) - ((n : Int) - 1)) = ((k + 1 : Nat) : Int) * (((k + 1 : Nat) : Int) - n) := by
      have : ((k + 1 : Nat) : Int) = (k : Int) + 1 := by omega
      rw [this]
      simp only [Int.mul_sub, Int.add_mul, Int.mul_add, Int.one_mul, Int.mul_one]
      omega
    have hb : (((k + 1 : Nat) : Int) * (((k + 1 : Nat) : Int) - n)).natAbs < 2 ^ 29 := by
      rw [Int.natAbs_mul]
      have a1 : ((k + 1 : Nat) : Int).natAbs ≤ 9 := by omega
      have a2 : (((k + 1 : Nat) : Int) - n).natAbs ≤ 9 := by omega
      have := Nat.mul_le_mul a1 a2
      omega
    obtain ⟨s1, s2⟩ := rv_mult vs hb hg (by rw [← hc, Rat.intCast_add]; grind)
    have eS : arith .f64 .add (driftN (List.replicate n x) k) t = s := arith_some (k := .f64) (op := .add) es
    rw [eS]
    exact ⟨fin_key s1, s2⟩
theorem six_fin : fin double 4618441417868443648 = true := by decide +kernel
theorem drift_zero {x n : Nat} (hx : fin32 x = true) (h2 : 2 ≤ n) (h9 : n ≤ 9) : Fl.nan .f64 (driftR (List.replicate n x)) = false ∧ Fl.ky .f64 (driftR (List.replicate n x)) = 0 := by
  obtain ⟨f, v⟩ := drift_cst hx h9 n (Nat.le_refl _)
  have v0 : kv double (key double (driftN (List.replicate n x) n)) = 0 := by
    rw [v, show ((n : Int) * ((n : Int) - n)) = 0 by rw [Int.sub_self, Int.mul_zero]]
    show (0 : Rat) * _ = 0
    rw [Rat.zero_mul]
  obtain ⟨m, em, vm, _, _⟩ := mul_spec double f six_fin
  have km := vm.exact double inf00 (by rw [v0, kv_zero, Rat.zero_mul])
  have fm : fin double m = true := fin_key (by rw [km]; exact inf00)
  have eM : arith .f64 .mul (driftN (List.replicate n x) n) 4618441417868443648 = m := arith_some (k := .f64) (op := .mul) em
  have hcube := cube (n := (n : Int)) (by omega) (by omega)
  have hpos : (1 : Int) ≤ (n : Int) * ((n : Int) * n - 1) := by
    have h4 : (2 : Int) * 2 ≤ (n : Int) * n := Int.mul_le_mul (by omega) (by omega) (by decide) (by omega)
    have : (1 : Int) * 1 ≤ (n : Int) * ((n : Int) * n - 1) := Int.mul_le_mul (by omega) (by omega) (by decide) (by omega)
    omega
  obtain ⟨i1, i2, _⟩ := int_spec (n := (n : Int) * ((n : Int) * n - 1)) (by omega)
  have k0 : key double (floatOfInt .f64 ((n : Int) * ((n : Int) * n - 1))) ≠ 0 := by
    intro e
    rw [e, kv_zero] at i2
    have : ((0 : Int) : Rat) = (((n : Int) * ((n : Int) * n - 1) : Int) : Rat) := i2
    have := Rat.intCast_inj.1 this
    omega
  obtain ⟨d, ed, vd, nd, _⟩ := div_spec double fm i1 k0
  have kd := vd.exact double inf00 (by rw [km, kv_zero, Rat.div_def, Rat.zero_mul])
  have eD : driftR (List.replicate n x) = d := by
    unfold driftR
    rw [List.length_replicate, eM]
    exact arith_some (k := .f64) (op := .quo) ed
  rw [eD]
  exact ⟨nd, kd⟩

theorem cst_good {x n : Nat} (hx : fin32 x = true) (h9 : n ≤ 9) : goodB (List.replicate n x) = true := goodB_iff.2 ⟨by rw [List.length_replicate]; omega, fun y hy => by rw [(List.mem_replicate.1 hy).2]; exact hx⟩
theorem cst_mean {x n : Nat} (hx : fin32 x = true) (h1 : 1 ≤ n) (h9 : n ≤ 9) : meanB (List.replicate n x) = true ∧ Fl.nan .f32 (meanV (List.replicate n x)) = false ∧ Fl.ky .f32 (meanV (List.replicate n x)) = Fl.ky .f32 x := by
  have hb : meanB (List.replicate n x) = true := meanB_iff.2 ⟨cst_good hx h9, by rw [List.length_replicate]; omega⟩
  have hg := key_fin (f := single) hx
  have h := mean_btw hg hg hb (fun y hy => by rw [(List.mem_replicate.1 hy).2]; exact ⟨Int.le_refl _, Int.le_refl _⟩)
  have e : meanV (List.replicate n x) = nar (meanQ (List.replicate n x)) := by unfold meanV; rw [hb]; rfl
  rw [e]
  exact ⟨hb, Fl.fin_nan .f32 (show Fl.fin single _ = true from h.2.2.1), Int.le_antisymm h.2.2.2.2 h.2.2.2.1⟩
theorem cst_at {x n k : Nat} (hk : k < n) : (isort (List.replicate n x)).getD k 0 = x := by
  have hl : k < (isort (List.replicate n x)).length := by rw [isort_len, List.length_replicate]; exact hk
  have e : (isort (List.replicate n x)).getD k 0 = (isort (List.replicate n x))[k] := by simp [List.getD, hl]
  rw [e]
  exact (List.mem_replicate.1 (isort_mem.1 (List.getElem_mem hl))).2
theorem cst_mid {x n : Nat} (h1 : 1 ≤ n) : midV (List.replicate n x) = x := by
  unfold midV
  rw [List.length_replicate]
  exact cst_at (by omega)
theorem cst_spread {x n : Nat} (hx : fin32 x = true) (h1 : 1 ≤ n) : sprB (List.replicate n x) = true ∧ Fl.nan .f32 (sprV (List.replicate n x)) = false ∧ Fl.ky .f32 (sprV (List.replicate n x)) = 0 := by
  obtain ⟨d, ed, vd, nd, _⟩ := sub_spec single (show fin single x = true from hx) (show fin single x = true from hx)
  have i0 : (0 : Int).natAbs < single.infRung := by rw [inf32r]; decide
  have kd := vd.exact single i0 (by rw [kv_zero]; grind)
  have eD : sprD (List.replicate n x) = d := by
    unfold sprD
    rw [List.length_replicate, cst_at (by omega), cst_at (by omega)]
    exact arith_some (k := .f32) (op := .sub) ed
  have fd : fin32 d = true := fin_key (f := single) (by rw [kd]; exact i0)
  have hb : sprB (List.replicate n x) = true := by
    unfold sprB
    rw [List.length_replicate, decide_eq_true (show 0 < n by omega), eD, fd]; rfl
  refine ⟨hb, ?_, ?_⟩
  · unfold sprV; rw [hb, eD]; exact nd
  · unfold sprV; rw [hb, eD]; exact kd
theorem cst_count {x n : Nat} (hx : fin32 x = true) (h9 : n ≤ 9) : countV (List.replicate n x) x = n := by
  have he : Fl.eq .f32 x x = true := by rw [Fl.eq_ky, Fl.fin_nan .f32 (show Fl.fin single x = true from hx)]; simp
  unfold countV cntN
  rw [List.length_replicate, if_pos (by omega), List.filter_replicate, if_pos he, List.length_replicate]
theorem eq_of_ky {k : FloatKind} {x y : Nat} (hx : Fl.nan k x = false) (hy : Fl.nan k y = false) (h : Fl.ky k x = Fl.ky k y) : (k.format.order x y == some .eq) = true := by
  have : Fl.eq k x y = true := by rw [Fl.eq_ky, hx, hy, h]; simp
  exact this
end Go.Proofs.Ytgenphbackbepaa
