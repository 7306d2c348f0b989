/- What a table tells between two points lies between the first Y and the first Y plus the difference. Plain laws. -/
import Derived.Test.YtbloipnpgncjiaaNodeL
namespace Go.Proofs.Ytbloipnpgncjiaa
open Go.RowKit Ieee

theorem gapMinV (r : Nat) : Fl.V single r + Fl.pw (-149) ≤ Fl.V single (r + 1) := by
  by_cases hs : r < 2 ^ 23
  · have h1 := Fl.V_low single r (by rw [Fl.bin32]; omega)
    have h2 := Fl.V_low single (r + 1) (by rw [Fl.bin32]; omega)
    rw [Fl.least32] at h1 h2
    rw [h1, h2]
    unfold Fl.mv
    rw [show ((r + 1 : Nat) : Rat) = (r : Rat) + 1 from Rat.natCast_add r 1]
    grind
  · have e : r = (r / 2 ^ 23 - 1 + 1) * 2 ^ 23 + r % 2 ^ 23 := by omega
    have hm := Nat.mod_lt r (show 0 < 2 ^ 23 by decide)
    generalize r / 2 ^ 23 - 1 = a at e
    generalize r % 2 ^ 23 = s at e hm
    subst e
    have h1 := Fl.V_at single a s (by rw [Fl.bin32]; omega)
    have h2 := Fl.V_at single a (s + 1) (by rw [Fl.bin32]; omega)
    rw [Fl.bin32, Fl.least32] at h1 h2
    rw [Nat.add_assoc, h1, h2]
    unfold Fl.mv
    have h3 : Fl.pw (-149) ≤ Fl.pw (-149 + (a : Int)) := Fl.pw_le (by omega)
    rw [show ((2 ^ 23 + (s + 1) : Nat) : Rat) = ((2 ^ 23 + s : Nat) : Rat) + 1 from by rw [← Nat.add_assoc]; exact Rat.natCast_add _ 1]
    grind
theorem gapMin (a : Int) : Fl.kv single a + Fl.pw (-149) ≤ Fl.kv single (a + 1) := by
  by_cases h0 : a < 0
  · obtain ⟨m, rfl⟩ : ∃ m : Nat, a = -((m : Int) + 1) := ⟨a.natAbs - 1, by omega⟩
    rw [show -((m : Int) + 1) + 1 = -(m : Int) by omega, Fl.kv_neg, Fl.kv_neg]
    have h1 : Fl.kv single (m : Int) = Fl.V single m := by unfold Fl.kv; rw [if_neg (by omega), Int.natAbs_natCast]
    have h2 : Fl.kv single ((m : Int) + 1) = Fl.V single (m + 1) := by unfold Fl.kv; rw [if_neg (by omega)]; congr 1
    rw [h1, h2]
    have := gapMinV m
    grind
  · obtain ⟨m, rfl⟩ := Int.eq_ofNat_of_zero_le (show 0 ≤ a by omega)
    have h1 : Fl.kv single (m : Int) = Fl.V single m := by unfold Fl.kv; rw [if_neg (by omega), Int.natAbs_natCast]
    have h2 : Fl.kv single ((m : Int) + 1) = Fl.V single (m + 1) := by unfold Fl.kv; rw [if_neg (by omega)]; congr 1
    rw [h1, h2]
    exact gapMinV m
theorem kv_one : Fl.kv single 1 = Fl.pw (-149) := by
  have h := Fl.V_low single 1 (by rw [Fl.bin32]; decide)
  rw [Fl.least32] at h
  unfold Fl.kv
  rw [if_neg (by decide), show (1 : Int).natAbs = 1 from rfl, h]
  unfold Fl.mv
  rw [show ((1 : Nat) : Rat) = 1 from rfl, Rat.one_mul]

/-- the line between two points -/
theorem line_btw {xa ya xb yb x : Nat} (a1 : bnd 14 xa = true) (a2 : bnd 14 ya = true) (b1 : bnd 14 xb = true) (b2 : bnd 14 yb = true) (hx : bnd 14 x = true)
    (hab : Fl.ky .f32 xa < Fl.ky .f32 xb) (h1 : Fl.ky .f32 xa ≤ Fl.ky .f32 x) (h2 : Fl.ky .f32 x ≤ Fl.ky .f32 xb) :
    ∃ d u y, sub32 yb ya = d ∧ ar .add ya d = u ∧ lineV (xa, ya) (xb, yb) x = y ∧ floatBits .sub .f32 yb ya = some d ∧ floatBits .add .f32 ya d = some u ∧ Fl.nan .f32 d = false ∧ Fl.nan .f32 u = false ∧ Fl.nan .f32 y = false ∧
      ((0 ≤ Fl.ky .f32 d ∧ Fl.ky .f32 ya ≤ Fl.ky .f32 y ∧ Fl.ky .f32 y ≤ Fl.ky .f32 u) ∨ (Fl.ky .f32 d < 0 ∧ Fl.ky .f32 y ≤ Fl.ky .f32 ya ∧ Fl.ky .f32 u ≤ Fl.ky .f32 y)) := by
  have F := fun {z : Nat} (h : bnd 14 z = true) => (show Fl.fin single z = true from bnd_fin (by decide) h)
  obtain ⟨s1, e1, v1, n1, _⟩ := Fl.sub_spec single (F hx) (F a1)
  obtain ⟨s2, e2, v2, n2, _⟩ := Fl.sub_spec single (F b1) (F a1)
  obtain ⟨d, e3, v3, n3, _⟩ := Fl.sub_spec single (F b2) (F a2)
  have k1 : Fl.kv single (Fl.key single xa) ≤ Fl.kv single (Fl.key single x) := Fl.kv_le single h1
  have k2 : Fl.kv single (Fl.key single x) ≤ Fl.kv single (Fl.key single xb) := Fl.kv_le single h2
  have k3 : Fl.kv single (Fl.key single xa) + Fl.pw (-149) ≤ Fl.kv single (Fl.key single xb) := Rat.le_trans (gapMin _) (Fl.kv_le single (show Fl.key single xa + 1 ≤ Fl.key single xb from hab))
  have i0 : (0 : Int).natAbs < single.infRung := by rw [Fl.inf32r]; decide
  have p1 : 0 ≤ Fl.key single s1 := v1.ge_of single i0 (by rw [Fl.kv_zero]; grind)
  have p2 : Fl.key single s1 ≤ Fl.key single s2 := v1.mono single v2 (by grind)
  have p3 : 1 ≤ Fl.key single s2 := v2.ge_of single (by rw [Fl.inf32r]; decide) (by rw [kv_one]; grind)
  have ex : Fl.arith .f32 .sub x xa = s1 := Fl.arith_some (k := .f32) (op := .sub) e1
  have ed : Fl.arith .f32 .sub xb xa = s2 := Fl.arith_some (k := .f32) (op := .sub) e2
  have ey : Fl.arith .f32 .sub yb ya = d := Fl.arith_some (k := .f32) (op := .sub) e3
  have f1 : Fl.fin single s1 = true := by rw [← ex]; exact bnd_fin (by decide) (sub_bnd (by decide) hx a1)
  have f2 : Fl.fin single s2 = true := by rw [← ed]; exact bnd_fin (by decide) (sub_bnd (by decide) b1 a1)
  have bd : bnd 15 d = true := by rw [← ey]; exact sub_bnd (by decide) b2 a2
  have f3 : Fl.fin single d = true := bnd_fin (by decide) bd
  obtain ⟨t, e4, v4, n4, _⟩ := Fl.div_spec single f1 f2 (by omega)
  have q0 : 0 ≤ Fl.kv single (Fl.key single s1) := by have := Fl.kv_le single p1; rwa [Fl.kv_zero] at this
  have q1 := Fl.kv_le single p2
  have q2 : 0 < Fl.kv single (Fl.key single s2) := by
    have h : Fl.kv single 1 ≤ Fl.kv single (Fl.key single s2) := Fl.kv_le single p3
    rw [kv_one] at h
    exact Std.lt_of_lt_of_le (Fl.pw_pos _) h
  have t0 : 0 ≤ Fl.key single t := (v4 0 i0).2 (by
    rw [Fl.kv_zero]
    exact Fl.le_div q2 (by rw [Rat.zero_mul]; exact q0))
  have t1 : Fl.key single t ≤ K 0 := (v4 (K 0) (K_lt (by decide))).1 (by
    rw [kvK]
    exact Fl.div_le q2 (by rw [show Fl.pw ((0 : Nat) : Int) = 1 from Fl.pw_zero, Rat.one_mul]; exact q1))
  have ft : Fl.fin single t = true := Fl.fin_key (by have := K_lt (show 0 ≤ 127 by decide); have := K_pos 0; omega)
  have et : Fl.arith .f32 .quo s1 s2 = t := Fl.arith_some (k := .f32) (op := .quo) e4
  have c0 : 0 ≤ Fl.kv single (Fl.key single t) := by have := Fl.kv_le single t0; rwa [Fl.kv_zero] at this
  have c1 : Fl.kv single (Fl.key single t) ≤ 1 := by
    have := Fl.kv_le single t1
    rwa [kvK, show Fl.pw ((0 : Nat) : Int) = 1 from Fl.pw_zero] at this
  obtain ⟨m, e5, v5, n5, _⟩ := Fl.mul_spec single ft f3
  have em : Fl.arith .f32 .mul t d = m := Fl.arith_some (k := .f32) (op := .mul) e5
  have hd := Fl.key_fin f3
  obtain ⟨u, e6, v6, n6, _⟩ := Fl.add_spec single (F a2) f3
  have eu : Fl.arith .f32 .add ya d = u := Fl.arith_some (k := .f32) (op := .add) e6
  have hm : (0 ≤ Fl.key single d ∧ 0 ≤ Fl.key single m ∧ Fl.key single m ≤ Fl.key single d) ∨ (Fl.key single d < 0 ∧ Fl.key single d ≤ Fl.key single m ∧ Fl.key single m ≤ 0) := by
    by_cases c : 0 ≤ Fl.key single d
    · have g0 : 0 ≤ Fl.kv single (Fl.key single d) := by have := Fl.kv_le single c; rwa [Fl.kv_zero] at this
      refine .inl ⟨c, v5.ge_of single i0 (by rw [Fl.kv_zero]; exact Rat.mul_nonneg c0 g0), v5.le_of single hd ?_⟩
      have := Rat.mul_le_mul_of_nonneg_right c1 g0
      rwa [Rat.one_mul] at this
    · have c' : Fl.key single d ≤ 0 := by omega
      have g0 : Fl.kv single (Fl.key single d) ≤ 0 := by have := Fl.kv_le single c'; rwa [Fl.kv_zero] at this
      have g1 : 0 ≤ -Fl.kv single (Fl.key single d) := by grind
      refine .inr ⟨by omega, v5.ge_of single hd ?_, v5.le_of single i0 ?_⟩
      · have := Rat.mul_le_mul_of_nonneg_right c1 g1
        rw [Rat.one_mul] at this
        grind
      · rw [Fl.kv_zero]
        have := Rat.mul_nonneg c0 g1
        grind
  have fm : Fl.fin single m = true := Fl.fin_key (by omega)
  obtain ⟨y, e7, v7, n7, _⟩ := Fl.add_spec single (F a2) fm
  have ey7 : Fl.arith .f32 .add ya m = y := Fl.arith_some (k := .f32) (op := .add) e7
  have hya := Fl.key_fin (F a2)
  refine ⟨d, u, y, ey, eu, ?_, e3, e6, n3, n6, n7, ?_⟩
  · show Fl.arith .f32 .add ya (Fl.arith .f32 .mul (Fl.arith .f32 .quo (Fl.arith .f32 .sub x xa) (Fl.arith .f32 .sub xb xa)) (Fl.arith .f32 .sub yb ya)) = y
    rw [ex, ed, ey, et, em, ey7]
  · rcases hm with ⟨c, m0, m1⟩ | ⟨c, m0, m1⟩
    · have w0 : 0 ≤ Fl.kv single (Fl.key single m) := by have := Fl.kv_le single m0; rwa [Fl.kv_zero] at this
      have w1 := Fl.kv_le single m1
      exact .inl ⟨c, show Fl.key single ya ≤ Fl.key single y from v7.ge_of single hya (by grind), v7.mono single v6 (by grind)⟩
    · have w0 : Fl.kv single (Fl.key single m) ≤ 0 := by have := Fl.kv_le single m1; rwa [Fl.kv_zero] at this
      have w1 := Fl.kv_le single m0
      exact .inr ⟨c, show Fl.key single y ≤ Fl.key single ya from v7.le_of single hya (by grind), v6.mono single v7 (by grind)⟩

theorem segF_facts {ps : List (Nat × Nat)} {x : Nat} (hl : 2 ≤ ps.length) : ∀ (f k : Nat), k + 1 < ps.length → Fl.le .f32 (ps.getD k (0, 0)).1 x = true → ps.length ≤ f + k + 1 →
    segF ps x f k + 1 < ps.length ∧ Fl.le .f32 (ps.getD (segF ps x f k) (0, 0)).1 x = true ∧ (segF ps x f k + 2 = ps.length ∨ Fl.le .f32 (ps.getD (segF ps x f k + 1) (0, 0)).1 x = false)
  | 0, k, h1, h2, h3 => by
    unfold segF
    exact ⟨h1, h2, .inl (by omega)⟩
  | f + 1, k, h1, h2, h3 => by
    unfold segF
    split
    · rename_i h
      exact segF_facts hl f (k + 1) (by omega) h.2 (by omega)
    · rename_i h
      refine ⟨h1, h2, ?_⟩
      by_cases c : k + 2 = ps.length
      · exact .inl c
      · refine .inr ?_
        cases e : Fl.le .f32 (ps.getD (k + 1) (0, 0)).1 x
        · rfl
        · exact absurd ⟨by omega, e⟩ h

/-- what a table tells between its points -/
theorem inter_btw {ps : List (Nat × Nat)} (h : DTab ps) {x : Nat} (hs : segIn ps x = true) (hn : ∀ j, j < ps.length → Fl.eq .f32 (ps.getD j (0, 0)).1 x = false) :
    ∃ k xa ya xb yb d u, segN ps x = k ∧ k + 1 < ps.length ∧ ps.getD k (0, 0) = (xa, ya) ∧ ps.getD (k + 1) (0, 0) = (xb, yb) ∧ floatBits .sub .f32 yb ya = some d ∧ floatBits .add .f32 ya d = some u ∧ Fl.nan .f32 (interV ps x) = false ∧
      ((Fl.ge .f32 d 0 = true ∧ Fl.ge .f32 (interV ps x) ya = true ∧ Fl.le .f32 (interV ps x) u = true) ∨ (Fl.ge .f32 d 0 = false ∧ Fl.le .f32 d 0 = true ∧ Fl.le .f32 (interV ps x) ya = true ∧ Fl.ge .f32 (interV ps x) u = true)) := by
  have hd := h.2.2
  have h2 := h.1
  have hs' := hs
  unfold segIn at hs'
  simp only [Bool.and_eq_true] at hs'
  obtain ⟨_, hge, hle⟩ := hs'
  have nn : ∀ i, i < ps.length → Fl.nan .f32 (ps.getD i (0, 0)).1 = false := fun i hi => bnd_nan (by decide) (hd.1 i hi).1
  have B0 := bnd_iff.1 (hd.1 0 (by omega)).1
  have BL := bnd_iff.1 (hd.1 (ps.length - 1) (by omega)).1
  rw [Fl.ge_ky, nn 0 (by omega)] at hge
  rw [Fl.le_ky, nn (ps.length - 1) (by omega)] at hle
  simp only [Bool.and_eq_true, decide_eq_true_eq, Bool.not_eq_true', Bool.not_false] at hge hle
  have nx : Fl.nan .f32 x = false := hge.1.1
  have bx : bnd 14 x = true := bnd_iff.2 ⟨by omega, by omega⟩
  have hle0 : Fl.le .f32 (ps.getD 0 (0, 0)).1 x = true := by rw [Fl.le_ky, nn 0 (by omega), nx]; simpa using hge.2
  obtain ⟨g1, g2, g3⟩ := segF_facts h2 ps.length 0 (by omega) hle0 (by omega)
  have hk : segF ps x ps.length 0 = segN ps x := rfl
  obtain ⟨k, hkk⟩ : ∃ k, segN ps x = k := ⟨_, rfl⟩
  rw [hk, hkk] at g1 g2 g3
  obtain ⟨a1, a2⟩ := hd.1 k (by omega)
  obtain ⟨b1, b2⟩ := hd.1 (k + 1) g1
  have hab := hd.2 k g1
  rw [Fl.le_ky, nn k (by omega), nx] at g2
  simp only [Bool.not_false, Bool.true_and, decide_eq_true_eq] at g2
  have g4 : Fl.ky .f32 x ≤ Fl.ky .f32 (ps.getD (k + 1) (0, 0)).1 := by
    rcases g3 with g3 | g3
    · have := hle.2
      rwa [show ps.length - 1 = k + 1 by omega] at this
    · rw [Fl.le_ky, nn (k + 1) g1, nx] at g3
      simp only [Bool.not_false, Bool.true_and, decide_eq_false_iff_not] at g3
      omega
  have hi : interV ps x = lineV (ps.getD (segN ps x) (0, 0)) (ps.getD (segN ps x + 1) (0, 0)) x := by
    unfold interV interN
    rw [hs]
    have hf : ps.find? (fun p => Fl.eq .f32 p.1 x) = none := by
      rw [List.find?_eq_none]
      intro p hp
      obtain ⟨i, hi, rfl⟩ := List.getElem_of_mem hp
      have := hn i hi
      rw [getD_at hi] at this
      simp [this]
    rw [hf]; rfl
  rw [hkk] at hi
  rcases hp : ps.getD k (0, 0) with ⟨xa, ya⟩
  rcases hq : ps.getD (k + 1) (0, 0) with ⟨xb, yb⟩
  rw [hp] at a1 a2 hab g2 hi
  rw [hq] at b1 b2 hab g4 hi
  obtain ⟨d, u, y, ed, eu, el, e3, e6, n3, n6, n7, hc⟩ := line_btw a1 a2 b1 b2 bx hab g2 g4
  rw [el] at hi
  have nya := bnd_nan (by decide) a2
  have nz : Fl.nan .f32 0 = false := by decide +kernel
  refine ⟨k, xa, ya, xb, yb, d, u, hkk, g1, hp, hq, e3, e6, by rw [hi]; exact n7, ?_⟩
  rw [hi]
  rcases hc with ⟨c1, c2, c3⟩ | ⟨c1, c2, c3⟩
  · refine .inl ⟨?_, ?_, ?_⟩
    · rw [Fl.ge_ky, n3, nz, ky_zero]; simpa using c1
    · rw [Fl.ge_ky, n7, nya]; simpa using c2
    · rw [Fl.le_ky, n7, n6]; simpa using c3
  · refine .inr ⟨?_, ?_, ?_, ?_⟩
    · rw [Fl.ge_ky, n3, nz, ky_zero, decide_eq_false (show ¬ (0 ≤ Fl.ky .f32 d) by omega)]; rfl
    · rw [Fl.le_ky, n3, nz, ky_zero, decide_eq_true (show Fl.ky .f32 d ≤ 0 by omega)]; rfl
    · rw [Fl.le_ky, n7, nya]; simpa using c2
    · rw [Fl.ge_ky, n7, n6]; simpa using c3
end Go.Proofs.Ytbloipnpgncjiaa
