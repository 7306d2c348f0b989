/- Singles within a power of two; the small numbers that are drawn; gaps between neighbours. Plain laws. -/
import Derived.Test.YtbloipnpgncjiaaNum
import Derived.Test.YtbloipnpgncjiaaFin
namespace Go.Proofs.Ytbloipnpgncjiaa
open Go.RowKit Ieee

/-- the key of 2^j as a single -/
def K (j : Nat) : Int := (((j + 126 + 1) * 2 ^ 23 + 0 : Nat) : Int)
theorem kvK (j : Nat) : Fl.kv single (K j) = Fl.pw j := by
  unfold K Fl.kv
  rw [if_neg (by omega), Int.natAbs_natCast]
  have h := Fl.V_at single (j + 126) 0 (Nat.zero_le _)
  rw [Fl.bin32, Fl.least32] at h
  rw [h]
  unfold Fl.mv
  rw [Nat.add_zero, show (-149 + ((j + 126 : Nat) : Int)) = (j : Int) + -23 by omega, Fl.pw_add, show ((2 ^ 23 : Nat) : Rat) = Fl.pw 23 from (Fl.pw_nat 23).symm]
  have : Fl.pw 23 * Fl.pw (-23) = 1 := by rw [← Fl.pw_add]; exact Fl.pw_zero
  grind
theorem K_lt {j : Nat} (h : j ≤ 127) : (K j).natAbs < single.infRung := by unfold K; rw [Fl.inf32r]; omega
theorem K_mono {i j : Nat} (h : i ≤ j) : K i ≤ K j := by unfold K; omega
theorem K_pos (j : Nat) : 0 < K j := by unfold K; omega
/-- within 2^j -/
def bnd (j : Nat) (x : Nat) : Bool := decide (-K j ≤ Fl.ky .f32 x) && decide (Fl.ky .f32 x ≤ K j)
theorem bnd_iff {j x : Nat} : bnd j x = true ↔ -K j ≤ Fl.ky .f32 x ∧ Fl.ky .f32 x ≤ K j := by simp [bnd]
theorem bnd_fin {j x : Nat} (hj : j ≤ 127) (h : bnd j x = true) : fin32 x = true := by
  have h1 := bnd_iff.1 h
  have h2 := K_lt hj
  have h3 := K_pos j
  exact Fl.fin_key (f := single) (by show (Fl.ky .f32 x).natAbs < _; omega)
theorem bnd_mono {i j x : Nat} (hij : i ≤ j) (h : bnd i x = true) : bnd j x = true := by
  have h1 := bnd_iff.1 h
  have h2 := K_mono hij
  exact bnd_iff.2 ⟨by omega, by omega⟩
theorem bnd_kv {j x : Nat} (h : bnd j x = true) : -Fl.pw j ≤ Fl.kv single (Fl.key single x) ∧ Fl.kv single (Fl.key single x) ≤ Fl.pw j := by
  have h1 := bnd_iff.1 h
  rw [← kvK, ← Fl.kv_neg]
  exact ⟨Fl.kv_le single h1.1, Fl.kv_le single h1.2⟩
/-- the gap to the next rung -/
theorem gapV {r q : Nat} (h : r < (q + 2) * 2 ^ 23) : Fl.V single (r + 1) ≤ Fl.V single r + Fl.pw (-149 + q) := by
  by_cases hs : r < 2 ^ 23
  · have h1 := Fl.V_low single r (by rw [Fl.bin32]; omega)
    have h2 := Fl.V_low single (r + 1) (by rw [Fl.bin32]; omega)
    rw [Fl.least32] at h1 h2
    rw [h1, h2]
    unfold Fl.mv
    have h3 : Fl.pw (-149) ≤ Fl.pw (-149 + (q : Int)) := Fl.pw_le (by omega)
    rw [show ((r + 1 : Nat) : Rat) = (r : Rat) + 1 from Rat.natCast_add r 1]
    grind
  · have e : r = (r / 2 ^ 23 - 1 + 1) * 2 ^ 23 + r % 2 ^ 23 := by omega
    have hq : r / 2 ^ 23 - 1 ≤ q := by omega
    have hm := Nat.mod_lt r (show 0 < 2 ^ 23 by decide)
    generalize r / 2 ^ 23 - 1 = a at e hq
    generalize r % 2 ^ 23 = s at e hm
    subst e
    have h1 := Fl.V_at single a s (by rw [Fl.bin32]; omega)
    have h2 := Fl.V_at single a (s + 1) (by rw [Fl.bin32]; omega)
    rw [Fl.bin32, Fl.least32] at h1 h2
    rw [Nat.add_assoc, h1, h2]
    unfold Fl.mv
    have h3 : Fl.pw (-149 + (a : Int)) ≤ Fl.pw (-149 + (q : Int)) := Fl.pw_le (by omega)
    rw [show ((2 ^ 23 + (s + 1) : Nat) : Rat) = ((2 ^ 23 + s : Nat) : Rat) + 1 from by rw [← Nat.add_assoc]; exact Rat.natCast_add _ 1]
    grind
theorem gap {a : Int} {q : Nat} (h : a.natAbs < (q + 2) * 2 ^ 23) : Fl.kv single (a + 1) ≤ Fl.kv single a + Fl.pw (-149 + q) := by
  by_cases h0 : a < 0
  · obtain ⟨m, rfl⟩ : ∃ m : Nat, a = -((m : Int) + 1) := ⟨a.natAbs - 1, by omega⟩
    rw [show -((m : Int) + 1) + 1 = -(m : Int) by omega, Fl.kv_neg, Fl.kv_neg]
    have h1 : Fl.kv single (m : Int) = Fl.V single m := by unfold Fl.kv; rw [if_neg (by omega), Int.natAbs_natCast]
    have h2 : Fl.kv single ((m : Int) + 1) = Fl.V single (m + 1) := by unfold Fl.kv; rw [if_neg (by omega)]; congr 1
    rw [h1, h2]
    have := gapV (r := m) (q := q) (by omega)
    grind
  · obtain ⟨m, rfl⟩ := Int.eq_ofNat_of_zero_le (show 0 ≤ a by omega)
    have h1 : Fl.kv single (m : Int) = Fl.V single m := by unfold Fl.kv; rw [if_neg (by omega), Int.natAbs_natCast]
    have h2 : Fl.kv single ((m : Int) + 1) = Fl.V single (m + 1) := by unfold Fl.kv; rw [if_neg (by omega)]; congr 1
    rw [h1, h2]
    exact gapV (by omega)
/-- a sum with a number that is not too small lies above -/
theorem add_above {j x s : Nat} (hj : j ≤ 20) (h8 : 8 ≤ j) (hx : bnd j x = true) (hs : Fl.fin single s = true) (h1 : Fl.pw (-3) ≤ Fl.kv single (Fl.key single s)) (h2 : Fl.kv single (Fl.key single s) ≤ Fl.pw 6) :
    floatBits .add .f32 x s = some (Fl.arith .f32 .add x s) ∧ bnd (j + 1) (Fl.arith .f32 .add x s) = true ∧ Fl.ky .f32 x < Fl.ky .f32 (Fl.arith .f32 .add x s) := by
  have hf : Fl.fin single x = true := bnd_fin (by omega) hx
  obtain ⟨r, e, v, _, _⟩ := Fl.add_spec single hf hs
  have e' : floatBits .add .f32 x s = some r := e
  have er : Fl.arith .f32 .add x s = r := Fl.arith_some e'
  rw [er]
  have hb := bnd_kv hx
  have p1 : Fl.pw ((j + 1 : Nat) : Int) = Fl.pw j * 2 := by rw [show ((j + 1 : Nat) : Int) = (j : Int) + 1 by omega]; exact Fl.pw_succ _
  have p2 : Fl.pw 6 ≤ Fl.pw j := Fl.pw_le (by omega)
  have p3 : 0 < Fl.pw (-3) := Fl.pw_pos _
  have p4 : 0 < Fl.pw j := Fl.pw_pos _
  refine ⟨e', bnd_iff.2 ⟨?_, ?_⟩, ?_⟩
  · refine v.ge_of single (by rw [Int.natAbs_neg]; exact K_lt (by omega)) ?_
    rw [Fl.kv_neg, kvK, p1]
    have := hb.1
    grind
  · refine v.le_of single (K_lt (by omega)) ?_
    rw [kvK, p1]
    have := hb.2
    grind
  · have hk := bnd_iff.1 hx
    have hK := K_mono (show j ≤ 20 from hj)
    have hK0 := K_pos j
    have hKv : K 20 = 147 * 2 ^ 23 := by unfold K; omega
    have hn : (Fl.ky .f32 x).natAbs < (146 + 2) * 2 ^ 23 := by omega
    have g := gap hn
    rw [show (-149 + ((146 : Nat) : Int)) = -3 by omega] at g
    have : Fl.ky .f32 x + 1 ≤ Fl.key single r := by
      refine v.ge_of single (by rw [Fl.inf32r]; omega) ?_
      have g' : Fl.kv single (Fl.key single x + 1) ≤ Fl.kv single (Fl.key single x) + Fl.pw (-3) := g
      show Fl.kv single (Fl.key single x + 1) ≤ _
      grind
    show Fl.ky .f32 x < Fl.key single r
    omega
/-- the difference of two such -/
theorem sub_bnd {j x y : Nat} (hj : j ≤ 100) (hx : bnd j x = true) (hy : bnd j y = true) : bnd (j + 1) (Fl.arith .f32 .sub x y) = true := by
  obtain ⟨r, e, v, _, _⟩ := Fl.sub_spec single (bnd_fin (by omega) hx) (bnd_fin (by omega) hy)
  have er : Fl.arith .f32 .sub x y = r := Fl.arith_some (k := .f32) (op := .sub) e
  rw [er]
  have hb := bnd_kv hx
  have hc := bnd_kv hy
  have p1 : Fl.pw ((j + 1 : Nat) : Int) = Fl.pw j * 2 := by rw [show ((j + 1 : Nat) : Int) = (j : Int) + 1 by omega]; exact Fl.pw_succ _
  refine bnd_iff.2 ⟨?_, ?_⟩
  · refine v.ge_of single (by rw [Int.natAbs_neg]; exact K_lt (by omega)) ?_
    rw [Fl.kv_neg, kvK, p1]
    grind
  · refine v.le_of single (K_lt (by omega)) ?_
    rw [kvK, p1]
    grind

/-- the small numbers -/
def mildV (a b : Int) : Nat := Fl.arith .f32 .quo (floatOfInt .f32 a) (floatOfInt .f32 b)
def mildC (a b : Int) : Bool := bnd 8 (mildV a b)
theorem mild_all : ((List.range 400).all fun a => ([1, 2, 3, 4, 10, 16] : List Nat).all fun b => mildC ((a : Int) - 200) b) = true := by decide +kernel
/-- the steps of a table -/
def stepC (a b : Int) : Bool := decide (1040187392 ≤ Fl.ky .f32 (mildV a b)) && decide (Fl.ky .f32 (mildV a b) ≤ K 6)
theorem step_all : ((List.range 40).all fun a => ([1, 3, 8] : List Nat).all fun b => stepC ((a : Int) + 1) b) = true := by decide +kernel
theorem kv_step {x : Nat} (h1 : 1040187392 ≤ Fl.ky .f32 x) (h2 : Fl.ky .f32 x ≤ K 6) : Fl.fin single x = true ∧ Fl.pw (-3) ≤ Fl.kv single (Fl.key single x) ∧ Fl.kv single (Fl.key single x) ≤ Fl.pw 6 := by
  have h3 : K 6 = 133 * 2 ^ 23 := by unfold K; omega
  refine ⟨Fl.fin_key (f := single) (by show (Fl.ky .f32 x).natAbs < _; rw [Fl.inf32r]; omega), ?_, ?_⟩
  · have h := Fl.V_at single 123 0 (Nat.zero_le _)
    rw [Fl.bin32, Fl.least32] at h
    have e : Fl.kv single 1040187392 = Fl.pw (-3) := by
      unfold Fl.kv
      rw [if_neg (by omega), show (1040187392 : Int).natAbs = (123 + 1) * 2 ^ 23 + 0 by omega, h]
      unfold Fl.mv
      rw [Nat.add_zero, show ((2 ^ 23 : Nat) : Rat) = Fl.pw 23 from (Fl.pw_nat 23).symm, ← Fl.pw_add]
      rfl
    rw [← e]
    exact Fl.kv_le single h1
  · rw [show Fl.pw 6 = Fl.pw ((6 : Nat) : Int) from rfl, ← kvK]
    exact Fl.kv_le single h2
end Go.Proofs.Ytbloipnpgncjiaa
